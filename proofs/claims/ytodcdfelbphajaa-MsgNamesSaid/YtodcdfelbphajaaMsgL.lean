/-
  Package msg, plain: the reader of messages.
-/
import Derived.Test.YtodcdfelbphajaaMsgK
namespace Go.Proofs.Ytodcdfelbphajaa
open Go.RowKit
set_option maxRecDepth 100000

abbrev MT : Type := (Int × (Int × (Int × (Int × (Int × (Int × (Int × (Int × (ByteArray × (ByteArray × (ByteArray × (Bool × (Int × (Int × (Bool × (ByteArray × (Int × (Int × (Int × (Int × (Int × (Bool × (List En × (List Int × (ByteArray × (Int × (Bool × (List Pr × (List Ls × (Int × (Int × (Int × Int))))))))))))))))))))))))))))))))
def toMP (t : MT) : MP := ⟨⟨t.1, t.2.1, t.2.2.1, t.2.2.2.1, t.2.2.2.2.1, t.2.2.2.2.2.1, t.2.2.2.2.2.2.1, t.2.2.2.2.2.2.2.1, t.2.2.2.2.2.2.2.2.1, t.2.2.2.2.2.2.2.2.2.1, t.2.2.2.2.2.2.2.2.2.2.1, t.2.2.2.2.2.2.2.2.2.2.2.1, t.2.2.2.2.2.2.2.2.2.2.2.2.1, t.2.2.2.2.2.2.2.2.2.2.2.2.2.1, t.2.2.2.2.2.2.2.2.2.2.2.2.2.2.1, t.2.2.2.2.2.2.2.2.2.2.2.2.2.2.2.1, t.2.2.2.2.2.2.2.2.2.2.2.2.2.2.2.2.1, t.2.2.2.2.2.2.2.2.2.2.2.2.2.2.2.2.2.1, t.2.2.2.2.2.2.2.2.2.2.2.2.2.2.2.2.2.2.1, t.2.2.2.2.2.2.2.2.2.2.2.2.2.2.2.2.2.2.2.1, t.2.2.2.2.2.2.2.2.2.2.2.2.2.2.2.2.2.2.2.2.1, t.2.2.2.2.2.2.2.2.2.2.2.2.2.2.2.2.2.2.2.2.2.1, t.2.2.2.2.2.2.2.2.2.2.2.2.2.2.2.2.2.2.2.2.2.2.2.2.1, t.2.2.2.2.2.2.2.2.2.2.2.2.2.2.2.2.2.2.2.2.2.2.2.2.2.1, t.2.2.2.2.2.2.2.2.2.2.2.2.2.2.2.2.2.2.2.2.2.2.2.2.2.2.1, t.2.2.2.2.2.2.2.2.2.2.2.2.2.2.2.2.2.2.2.2.2.2.2.2.2.2.2.2.2.1, t.2.2.2.2.2.2.2.2.2.2.2.2.2.2.2.2.2.2.2.2.2.2.2.2.2.2.2.2.2.2.1, t.2.2.2.2.2.2.2.2.2.2.2.2.2.2.2.2.2.2.2.2.2.2.2.2.2.2.2.2.2.2.2.1, t.2.2.2.2.2.2.2.2.2.2.2.2.2.2.2.2.2.2.2.2.2.2.2.2.2.2.2.2.2.2.2.2⟩, t.2.2.2.2.2.2.2.2.2.2.2.2.2.2.2.2.2.2.2.2.2.2.1, t.2.2.2.2.2.2.2.2.2.2.2.2.2.2.2.2.2.2.2.2.2.2.2.1, t.2.2.2.2.2.2.2.2.2.2.2.2.2.2.2.2.2.2.2.2.2.2.2.2.2.2.2.1, t.2.2.2.2.2.2.2.2.2.2.2.2.2.2.2.2.2.2.2.2.2.2.2.2.2.2.2.2.1⟩
def ofMP (p : MP) : MT := (p.c.f0, p.c.f1, p.c.f2, p.c.f3, p.c.f4, p.c.f5, p.c.f6, p.c.f7, p.c.f8, p.c.f9, p.c.f10, p.c.f11, p.c.f12, p.c.f13, p.c.f14, p.c.f15, p.c.f16, p.c.f17, p.c.f18, p.c.f19, p.c.f20, p.c.f21, p.E, p.L, p.c.f24, p.c.f25, p.c.f26, p.P, p.Q, p.c.f29, p.c.f30, p.c.f31, p.c.f32)
def rMT : Option (List UInt8) → MT × Option (List UInt8) := (rPair rK (rPair rNum (rPair rNum (rPair rNum (rPair rNum (rPair rNum (rPair rNum (rPair rK (rPair rS (rPair rS (rPair rS (rPair rF (rPair rNum (rPair rK (rPair rF (rPair rS (rPair rNum (rPair rNum (rPair rNum (rPair rNum (rPair rNum (rPair rF (rPair (rL rEn) (rPair (rL rNum) (rPair rS (rPair rNum (rPair rF (rPair (rL rPr) (rPair (rL rLs) (rPair rK (rPair rNum (rPair rNum rNum))))))))))))))))))))))))))))))))
def cMT (t : MT) : List UInt8 := (encC t.1 ++ (cNum t.2.1 ++ (cNum t.2.2.1 ++ (cNum t.2.2.2.1 ++ (cNum t.2.2.2.2.1 ++ (cNum t.2.2.2.2.2.1 ++ (cNum t.2.2.2.2.2.2.1 ++ (encC t.2.2.2.2.2.2.2.1 ++ (encT t.2.2.2.2.2.2.2.2.1 ++ (encT t.2.2.2.2.2.2.2.2.2.1 ++ (encT t.2.2.2.2.2.2.2.2.2.2.1 ++ (cFlag t.2.2.2.2.2.2.2.2.2.2.2.1 ++ (cNum t.2.2.2.2.2.2.2.2.2.2.2.2.1 ++ (encC t.2.2.2.2.2.2.2.2.2.2.2.2.2.1 ++ (cFlag t.2.2.2.2.2.2.2.2.2.2.2.2.2.2.1 ++ (encT t.2.2.2.2.2.2.2.2.2.2.2.2.2.2.2.1 ++ (cNum t.2.2.2.2.2.2.2.2.2.2.2.2.2.2.2.2.1 ++ (cNum t.2.2.2.2.2.2.2.2.2.2.2.2.2.2.2.2.2.1 ++ (cNum t.2.2.2.2.2.2.2.2.2.2.2.2.2.2.2.2.2.2.1 ++ (cNum t.2.2.2.2.2.2.2.2.2.2.2.2.2.2.2.2.2.2.2.1 ++ (cNum t.2.2.2.2.2.2.2.2.2.2.2.2.2.2.2.2.2.2.2.2.1 ++ (cFlag t.2.2.2.2.2.2.2.2.2.2.2.2.2.2.2.2.2.2.2.2.2.1 ++ (cL cEn t.2.2.2.2.2.2.2.2.2.2.2.2.2.2.2.2.2.2.2.2.2.2.1 ++ (cL cNum t.2.2.2.2.2.2.2.2.2.2.2.2.2.2.2.2.2.2.2.2.2.2.2.1 ++ (encT t.2.2.2.2.2.2.2.2.2.2.2.2.2.2.2.2.2.2.2.2.2.2.2.2.1 ++ (cNum t.2.2.2.2.2.2.2.2.2.2.2.2.2.2.2.2.2.2.2.2.2.2.2.2.2.1 ++ (cFlag t.2.2.2.2.2.2.2.2.2.2.2.2.2.2.2.2.2.2.2.2.2.2.2.2.2.2.1 ++ (cL cPr t.2.2.2.2.2.2.2.2.2.2.2.2.2.2.2.2.2.2.2.2.2.2.2.2.2.2.2.1 ++ (cL cLs t.2.2.2.2.2.2.2.2.2.2.2.2.2.2.2.2.2.2.2.2.2.2.2.2.2.2.2.2.1 ++ (encC t.2.2.2.2.2.2.2.2.2.2.2.2.2.2.2.2.2.2.2.2.2.2.2.2.2.2.2.2.2.1 ++ (cNum t.2.2.2.2.2.2.2.2.2.2.2.2.2.2.2.2.2.2.2.2.2.2.2.2.2.2.2.2.2.2.1 ++ (cNum t.2.2.2.2.2.2.2.2.2.2.2.2.2.2.2.2.2.2.2.2.2.2.2.2.2.2.2.2.2.2.2.1 ++ cNum t.2.2.2.2.2.2.2.2.2.2.2.2.2.2.2.2.2.2.2.2.2.2.2.2.2.2.2.2.2.2.2.2))))))))))))))))))))))))))))))))
def oMT (t : MT) : Prop := (u8ok t.1 ∧ (i64ok t.2.1 ∧ (i64ok t.2.2.1 ∧ (i64ok t.2.2.2.1 ∧ (i64ok t.2.2.2.2.1 ∧ (i64ok t.2.2.2.2.2.1 ∧ (i64ok t.2.2.2.2.2.2.1 ∧ (u8ok t.2.2.2.2.2.2.2.1 ∧ (t.2.2.2.2.2.2.2.2.1.size ≤ 8192 ∧ (t.2.2.2.2.2.2.2.2.2.1.size ≤ 8192 ∧ (t.2.2.2.2.2.2.2.2.2.2.1.size ≤ 8192 ∧ (True ∧ (i64ok t.2.2.2.2.2.2.2.2.2.2.2.2.1 ∧ (u8ok t.2.2.2.2.2.2.2.2.2.2.2.2.2.1 ∧ (True ∧ (t.2.2.2.2.2.2.2.2.2.2.2.2.2.2.2.1.size ≤ 8192 ∧ (i64ok t.2.2.2.2.2.2.2.2.2.2.2.2.2.2.2.2.1 ∧ (i64ok t.2.2.2.2.2.2.2.2.2.2.2.2.2.2.2.2.2.1 ∧ (i64ok t.2.2.2.2.2.2.2.2.2.2.2.2.2.2.2.2.2.2.1 ∧ (i64ok t.2.2.2.2.2.2.2.2.2.2.2.2.2.2.2.2.2.2.2.1 ∧ (i64ok t.2.2.2.2.2.2.2.2.2.2.2.2.2.2.2.2.2.2.2.2.1 ∧ (True ∧ ((t.2.2.2.2.2.2.2.2.2.2.2.2.2.2.2.2.2.2.2.2.2.2.1.length ≤ 8192 ∧ ∀ x ∈ t.2.2.2.2.2.2.2.2.2.2.2.2.2.2.2.2.2.2.2.2.2.2.1, okE x) ∧ ((t.2.2.2.2.2.2.2.2.2.2.2.2.2.2.2.2.2.2.2.2.2.2.2.1.length ≤ 8192 ∧ ∀ x ∈ t.2.2.2.2.2.2.2.2.2.2.2.2.2.2.2.2.2.2.2.2.2.2.2.1, i64ok x) ∧ (t.2.2.2.2.2.2.2.2.2.2.2.2.2.2.2.2.2.2.2.2.2.2.2.2.1.size ≤ 8192 ∧ (i64ok t.2.2.2.2.2.2.2.2.2.2.2.2.2.2.2.2.2.2.2.2.2.2.2.2.2.1 ∧ (True ∧ ((t.2.2.2.2.2.2.2.2.2.2.2.2.2.2.2.2.2.2.2.2.2.2.2.2.2.2.2.1.length ≤ 8192 ∧ ∀ x ∈ t.2.2.2.2.2.2.2.2.2.2.2.2.2.2.2.2.2.2.2.2.2.2.2.2.2.2.2.1, okP x) ∧ ((t.2.2.2.2.2.2.2.2.2.2.2.2.2.2.2.2.2.2.2.2.2.2.2.2.2.2.2.2.1.length ≤ 8192 ∧ ∀ x ∈ t.2.2.2.2.2.2.2.2.2.2.2.2.2.2.2.2.2.2.2.2.2.2.2.2.2.2.2.2.1, okQ x) ∧ (u8ok t.2.2.2.2.2.2.2.2.2.2.2.2.2.2.2.2.2.2.2.2.2.2.2.2.2.2.2.2.2.1 ∧ (i64ok t.2.2.2.2.2.2.2.2.2.2.2.2.2.2.2.2.2.2.2.2.2.2.2.2.2.2.2.2.2.2.1 ∧ (i64ok t.2.2.2.2.2.2.2.2.2.2.2.2.2.2.2.2.2.2.2.2.2.2.2.2.2.2.2.2.2.2.2.1 ∧ i64ok t.2.2.2.2.2.2.2.2.2.2.2.2.2.2.2.2.2.2.2.2.2.2.2.2.2.2.2.2.2.2.2.2))))))))))))))))))))))))))))))))
set_option maxHeartbeats 1000000 in
theorem cod_MT : Cod rMT cMT oMT := (cod_K.pair (cod_N.pair (cod_N.pair (cod_N.pair (cod_N.pair (cod_N.pair (cod_N.pair (cod_K.pair (cod_S.pair (cod_S.pair (cod_S.pair (cod_F.pair (cod_N.pair (cod_K.pair (cod_F.pair (cod_S.pair (cod_N.pair (cod_N.pair (cod_N.pair (cod_N.pair (cod_N.pair (cod_F.pair (cod_E.list.pair (cod_N.list.pair (cod_S.pair (cod_N.pair (cod_F.pair (cod_P.list.pair (cod_Q.list.pair (cod_K.pair (cod_N.pair (cod_N.pair cod_N))))))))))))))))))))))))))))))))
def rMsg : Option (List UInt8) → MP × Option (List UInt8) := rIso toMP rMT
def okM (p : MP) : Prop := (u8ok p.c.f0 ∧ (i64ok p.c.f1 ∧ (i64ok p.c.f2 ∧ (i64ok p.c.f3 ∧ (i64ok p.c.f4 ∧ (i64ok p.c.f5 ∧ (i64ok p.c.f6 ∧ (u8ok p.c.f7 ∧ (p.c.f8.size ≤ 8192 ∧ (p.c.f9.size ≤ 8192 ∧ (p.c.f10.size ≤ 8192 ∧ (True ∧ (i64ok p.c.f12 ∧ (u8ok p.c.f13 ∧ (True ∧ (p.c.f15.size ≤ 8192 ∧ (i64ok p.c.f16 ∧ (i64ok p.c.f17 ∧ (i64ok p.c.f18 ∧ (i64ok p.c.f19 ∧ (i64ok p.c.f20 ∧ (True ∧ ((p.E.length ≤ 8192 ∧ ∀ x ∈ p.E, okE x) ∧ ((p.L.length ≤ 8192 ∧ ∀ x ∈ p.L, i64ok x) ∧ (p.c.f24.size ≤ 8192 ∧ (i64ok p.c.f25 ∧ (True ∧ ((p.P.length ≤ 8192 ∧ ∀ x ∈ p.P, okP x) ∧ ((p.Q.length ≤ 8192 ∧ ∀ x ∈ p.Q, okQ x) ∧ (u8ok p.c.f29 ∧ (i64ok p.c.f30 ∧ (i64ok p.c.f31 ∧ i64ok p.c.f32))))))))))))))))))))))))))))))))
def cMP (p : MP) : List UInt8 := (encC p.c.f0 ++ (cNum p.c.f1 ++ (cNum p.c.f2 ++ (cNum p.c.f3 ++ (cNum p.c.f4 ++ (cNum p.c.f5 ++ (cNum p.c.f6 ++ (encC p.c.f7 ++ (encT p.c.f8 ++ (encT p.c.f9 ++ (encT p.c.f10 ++ (cFlag p.c.f11 ++ (cNum p.c.f12 ++ (encC p.c.f13 ++ (cFlag p.c.f14 ++ (encT p.c.f15 ++ (cNum p.c.f16 ++ (cNum p.c.f17 ++ (cNum p.c.f18 ++ (cNum p.c.f19 ++ (cNum p.c.f20 ++ (cFlag p.c.f21 ++ (cL cEn p.E ++ (cL cNum p.L ++ (encT p.c.f24 ++ (cNum p.c.f25 ++ (cFlag p.c.f26 ++ (cL cPr p.P ++ (cL cLs p.Q ++ (encC p.c.f29 ++ (cNum p.c.f30 ++ (cNum p.c.f31 ++ cNum p.c.f32))))))))))))))))))))))))))))))))
theorem cMT_enc (p : MP) : cMP p = encM p := by
  unfold cMP encM cRes cInts cL
  simp only [List.flatMap_cons, List.flatMap_nil, List.append_nil, List.nil_append, List.append_assoc]
theorem cod_M : Cod rMsg encM okM := (show Cod rMsg cMP okM from cod_MT.iso toMP ofMP (fun _ => rfl) (fun _ => rfl)).eqc cMT_enc
/-- the message of bytes -/
def decM (l : List UInt8) : MP × Int :=
  if 8192 < l.length then (⟨sc0, [], [], [], []⟩, 4)
  else if rDone (rMsg (some l)).2 = true ∧ 1 ≤ (rMsg (some l)).1.c.f0 ∧ (rMsg (some l)).1.c.f0 ≤ 19 then ((rMsg (some l)).1, 0)
  else (⟨sc0, [], [], [], []⟩, 4)
theorem encM_pos (p : MP) (h : 1 ≤ p.c.f0 ∧ p.c.f0 ≤ 19) : 0 < (encM p).length := by
  have : encC p.c.f0 = enc p.c.f0.toNat := by unfold encC; rw [if_pos (by omega)]
  have h2 := enc_pos p.c.f0.toNat
  rw [← cMT_enc]
  show 0 < (encC p.c.f0 ++ _).length
  rw [List.length_append, this]
  omega
theorem dec_enc {p : MP} (h : okM p) (hk : 1 ≤ p.c.f0 ∧ p.c.f0 ≤ 19) (hl : (encM p).length ≤ 8192) : decM (encM p) = (p, 0) := by
  have := cod_M.enc p [] h
  rw [List.append_nil] at this
  unfold decM
  rw [this, if_neg (by omega)]
  simp only [rDone, true_and]
  rw [if_pos hk]
theorem enc_dec {l : List UInt8} (h : (decM l).2 = 0) : okM (decM l).1 ∧ (1 ≤ (decM l).1.c.f0 ∧ (decM l).1.c.f0 ≤ 19) ∧ encM (decM l).1 = l ∧ l.length ≤ 8192 := by
  unfold decM at h ⊢
  split at h
  · cases h
  · rename_i h8
    rw [if_neg h8]
    split at h
    · rename_i hd
      rw [if_pos hd]
      obtain ⟨hd, hk⟩ := hd
      have hst : (rMsg (some l)).2 = some [] := by
        unfold rDone at hd
        split at hd
        · rename_i e; exact e
        · cases hd
      obtain ⟨ho, he⟩ := cod_M.only l [] (rMsg (some l)).1 (Prod.ext rfl hst)
      rw [List.append_nil] at he
      exact ⟨ho, hk, he.symm, by omega⟩
    · cases h
theorem dec_bad {l : List UInt8} (h : (decM l).2 ≠ 0) : decM l = (⟨sc0, [], [], [], []⟩, 4) := by
  unfold decM at h ⊢
  split
  · rfl
  · rename_i h8
    rw [if_neg h8] at h
    split
    · rename_i hd
      rw [if_pos hd] at h
      exact absurd rfl h
    · rfl
/-- what begins a message's bytes is none -/
theorem dec_cut {l : List UInt8} (h : (decM l).2 = 0) {n : Nat} (hn : n < l.length) : (decM (l.take n)).2 ≠ 0 := by
  intro h2
  obtain ⟨o1, k1, e1, l1⟩ := enc_dec h
  obtain ⟨o2, k2, e2, l2⟩ := enc_dec h2
  have a1 := cod_M.enc _ [] o1
  rw [e1, List.append_nil] at a1
  have a2 := cod_M.enc _ (l.drop n) o2
  rw [e2, List.take_append_drop, a1] at a2
  simp only [Prod.mk.injEq, Option.some.injEq] at a2
  have := congrArg List.length a2.2
  rw [List.length_drop, List.length_nil] at this
  omega

theorem flat_le {T : Type} (c : T → List UInt8) {L : List T} {x : T} (h : x ∈ L) : (c x).length ≤ (L.flatMap c).length := by
  induction L with
  | nil => cases h
  | cons y L ih =>
    rw [List.flatMap_cons, List.length_append]
    rcases List.mem_cons.mp h with rfl | h
    · omega
    · have := ih h; omega
theorem flat_cnt {T : Type} (c : T → List UInt8) (L : List T) (h : ∀ x ∈ L, 0 < (c x).length) : L.length ≤ (L.flatMap c).length := by
  induction L with
  | nil => simp
  | cons y L ih =>
    rw [List.flatMap_cons, List.length_append, List.length_cons]
    have h1 := h y (List.mem_cons_self ..)
    have h2 := ih fun x hx => h x (List.mem_cons_of_mem _ hx)
    omega
theorem cNum_pos (n : Int) : 0 < (cNum n).length := enc_pos _
theorem cEn_pos (x : En) : 0 < (cEn x).length := by
  have := cNum_pos x.1
  unfold cEn
  simp only [List.length_append]
  omega
theorem cLs_pos (x : Ls) : 0 < (cLs x).length := by
  have := cNum_pos x.1
  unfold cLs
  simp only [List.length_append]
  omega
theorem encT_pos (x : ByteArray) : 0 < (encT x).length := by
  by_cases h : x.size ≤ 2147483647
  · rw [encT_eq h]
    unfold encS
    rw [if_pos h, List.length_append]
    have := enc_pos x.size
    omega
  · have := encT_len x
    omega
theorem cPr_pos (x : Pr) : 0 < (cPr x).length := by
  have := encT_pos x.1
  unfold cPr
  simp only [List.length_append]
  omega
theorem app_le {a b : List UInt8} {n : Nat} (h : (a ++ b).length ≤ n) : a.length ≤ n ∧ b.length ≤ n := by
  rw [List.length_append] at h
  omega
theorem cL_le {T : Type} {c : T → List UInt8} {L : List T} {n : Nat} (hp : ∀ x ∈ L, 0 < (c x).length) (h : (cL c L).length ≤ n) : L.length ≤ n ∧ ∀ x ∈ L, (c x).length ≤ n := by
  unfold cL at h
  obtain ⟨_, h⟩ := app_le h
  exact ⟨Nat.le_trans (flat_cnt c L hp) h, fun x hx => Nat.le_trans (flat_le c hx) h⟩
theorem encS_le {x : ByteArray} {n : Nat} (h : (encT x).length ≤ n) : x.size ≤ n := Nat.le_trans (encT_len x) h
theorem i64_list {L : List Int} (h : ∀ n ∈ L, i64ok n) (x : Int) (hx : x ∈ L) : i64ok x := h x hx
theorem okM.of {p : MP} (h : EO p) (hl : (encM p).length ≤ 8192) : okM p := by
  rw [← cMT_enc] at hl
  unfold cMP at hl
  obtain ⟨l0, hl⟩ := app_le hl
  obtain ⟨l1, hl⟩ := app_le hl
  obtain ⟨l2, hl⟩ := app_le hl
  obtain ⟨l3, hl⟩ := app_le hl
  obtain ⟨l4, hl⟩ := app_le hl
  obtain ⟨l5, hl⟩ := app_le hl
  obtain ⟨l6, hl⟩ := app_le hl
  obtain ⟨l7, hl⟩ := app_le hl
  obtain ⟨l8, hl⟩ := app_le hl
  obtain ⟨l9, hl⟩ := app_le hl
  obtain ⟨l10, hl⟩ := app_le hl
  obtain ⟨l11, hl⟩ := app_le hl
  obtain ⟨l12, hl⟩ := app_le hl
  obtain ⟨l13, hl⟩ := app_le hl
  obtain ⟨l14, hl⟩ := app_le hl
  obtain ⟨l15, hl⟩ := app_le hl
  obtain ⟨l16, hl⟩ := app_le hl
  obtain ⟨l17, hl⟩ := app_le hl
  obtain ⟨l18, hl⟩ := app_le hl
  obtain ⟨l19, hl⟩ := app_le hl
  obtain ⟨l20, hl⟩ := app_le hl
  obtain ⟨l21, hl⟩ := app_le hl
  obtain ⟨l22, hl⟩ := app_le hl
  obtain ⟨l23, hl⟩ := app_le hl
  obtain ⟨l24, hl⟩ := app_le hl
  obtain ⟨l25, hl⟩ := app_le hl
  obtain ⟨l26, hl⟩ := app_le hl
  obtain ⟨l27, hl⟩ := app_le hl
  obtain ⟨l28, hl⟩ := app_le hl
  obtain ⟨l29, hl⟩ := app_le hl
  obtain ⟨l30, hl⟩ := app_le hl
  obtain ⟨l31, hl⟩ := app_le hl
  obtain ⟨lE, mE⟩ := cL_le (fun x _ => cEn_pos x) l22
  obtain ⟨lL, mL⟩ := cL_le (fun x _ => cNum_pos x) l23
  obtain ⟨lP, mP⟩ := cL_le (fun x _ => cPr_pos x) l27
  obtain ⟨lQ, mQ⟩ := cL_le (fun x _ => cLs_pos x) l28
  have n1 := i64_list h.n1
  have n16 := i64_list h.n16
  have n30 := i64_list h.n30
  refine ⟨h.k0, n1 _ (by simp), n1 _ (by simp), n1 _ (by simp), n1 _ (by simp), n1 _ (by simp), n1 _ (by simp), h.k7, encS_le l8, encS_le l9, encS_le l10, trivial, h.n12, h.k13, trivial, encS_le l15, n16 _ (by simp), n16 _ (by simp), n16 _ (by simp), n16 _ (by simp), n16 _ (by simp), trivial, ⟨lE, fun x hx => ?_⟩, ⟨lL, h.l⟩, encS_le l24, h.n25, trivial, ⟨lP, fun x hx => ?_⟩, ⟨lQ, fun x hx => ?_⟩, h.k29, n30 _ (by simp), n30 _ (by simp), n30 _ (by simp)⟩
  · obtain ⟨a, b, e⟩ := h.e x hx
    have h1 := mE x hx
    unfold cEn cInts at h1
    obtain ⟨h1, h2⟩ := app_le h1
    obtain ⟨h3, h4⟩ := app_le h1
    obtain ⟨h5, h6⟩ := app_le h2
    exact ⟨a, b, encS_le h4, Nat.le_trans (flat_cnt cNum x.2.2.2 fun x _ => cNum_pos x) h6, e⟩
  · have h1 := mP x hx
    unfold cPr at h1
    obtain ⟨h1, h2⟩ := app_le h1
    exact ⟨encS_le h1, encS_le h2⟩
  · obtain ⟨a, b, c⟩ := h.qq x hx
    have h1 := mQ x hx
    unfold cLs cRes at h1
    obtain ⟨h1, h2⟩ := app_le h1
    obtain ⟨h3, h4⟩ := app_le h2
    exact ⟨a, b, c, trivial, encS_le h4⟩
theorem EOk.of {p : MP} (h : okM p) : EOk p := by
  obtain ⟨h0, h1, h2, h3, h4, h5, h6, h7, h8, h9, h10, h11, h12, h13, h14, h15, h16, h17, h18, h19, h20, h21, h22, h23, h24, h25, h26, h27, h28, h29, h30, h31, h32⟩ := h
  refine ⟨h0, h7, h13, h29, ?_, h12, ?_, h25, ?_, ?_, by omega, by omega, fun x hx => ?_, h23.2, fun x hx => ?_, fun x hx => ?_⟩
  · intro n hn
    simp only [List.mem_cons, List.not_mem_nil, or_false] at hn
    rcases hn with rfl | rfl | rfl | rfl | rfl | rfl <;> assumption
  · intro n hn
    simp only [List.mem_cons, List.not_mem_nil, or_false] at hn
    rcases hn with rfl | rfl | rfl | rfl | rfl <;> assumption
  · intro n hn
    simp only [List.mem_cons, List.not_mem_nil, or_false] at hn
    rcases hn with rfl | rfl | rfl <;> assumption
  · intro n hn
    simp only [List.mem_cons, List.not_mem_nil, or_false] at hn
    rcases hn with rfl | rfl | rfl <;> omega
  · obtain ⟨a, b, c, d, e⟩ := h22.2 x hx
    exact ⟨a, b, by omega, by omega, e⟩
  · obtain ⟨a, b⟩ := h27.2 x hx
    exact ⟨by omega, by omega⟩
  · obtain ⟨a, b, c, d, e⟩ := h28.2 x hx
    exact ⟨a, b, c, by omega⟩
/-- messages with the same bytes are the same -/
theorem encM_inj {p q : MP} (hp : EO p) (hq : EO q) (kp : 1 ≤ p.c.f0 ∧ p.c.f0 ≤ 19) (kq : 1 ≤ q.c.f0 ∧ q.c.f0 ≤ 19) (hl : (encM p).length ≤ 8192) (h : encM p = encM q) : p = q := by
  have h1 := dec_enc (okM.of hp hl) kp hl
  have h2 := dec_enc (okM.of hq (by rw [← h]; exact hl)) kq (by rw [← h]; exact hl)
  rw [h, h2] at h1
  exact (congrArg Prod.fst h1).symm
end Go.Proofs.Ytodcdfelbphajaa
