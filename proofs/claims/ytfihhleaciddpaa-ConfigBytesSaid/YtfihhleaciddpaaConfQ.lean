/-
  Package config: the document's reading of bytes. Plain law, and the document's reader, commands, New.
-/
import Derived.Test.YtfihhleaciddpaaConfG
import Derived.Test.YtfihhleaciddpaaCodeR
import Derived.Test.YtfihhleaciddpaaCodeI
namespace Go.Proofs.Ytfihhleaciddpaa
open Go.RowKit
set_option maxRecDepth 100000

def stOk (b : Int) (p : Pl) : Prop := may p ∧ p.2.1 ≤ b ∧ p.2.2 ≤ b
instance (b : Int) (p : Pl) : Decidable (stOk b p) := by unfold stOk; infer_instance
def decQ (a b : Int) (st : St) : Option CM :=
  if (∀ p ∈ (rPls 1048576 a.toNat st).1, stOk b p) ∧ rDone (rFls b.toNat (rPls 1048576 a.toNat st).2).2 = true then some ⟨(rPls 1048576 a.toNat st).1, (rFls b.toNat (rPls 1048576 a.toNat st).2).1⟩ else none
def decD (l : List UInt8) : Option CM :=
  if 1 ≤ (rCount 1048576 (some l)).1 ∧ (rCount 1048576 (some l)).1 ≤ 4 ∧ 1 ≤ (rCount 1048576 (rCount 1048576 (some l)).2).1 ∧ (rCount 1048576 (rCount 1048576 (some l)).2).1 ≤ 5 then
    decQ (rCount 1048576 (some l)).1 (rCount 1048576 (rCount 1048576 (some l)).2).1 (rCount 1048576 (rCount 1048576 (some l)).2).2
  else none
theorem rPl_encM (n M : Int) (hn : n ≤ 5) (hM : n ≤ M) (p : Pl) (hp : okP n p) (t : List UInt8) : rPl M (some (encC p.1 ++ encC p.2.1 ++ encC p.2.2 ++ t)) = (p, some t) := by
  obtain ⟨_, a, b, c1, c2, d1, d2⟩ := hp
  unfold rPl
  rw [List.append_assoc, List.append_assoc, rCount_enc _ _ a b b]
  simp only
  rw [rCount_enc _ _ c1 (by omega) (by omega)]
  simp only
  rw [rCount_enc _ _ d1 (by omega) (by omega)]
theorem rPls_encM (n M : Int) (hn : n ≤ 5) (hM : n ≤ M) (P : List Pl) (hP : ∀ p ∈ P, okP n p) (t : List UInt8) : ∀ k, k ≤ P.length → rPls M k (some (encP P ++ t)) = (P.take k, some (encP (P.drop k) ++ t))
  | 0, _ => by simp [rPls]
  | k + 1, hk => by
    simp only [rPls]
    rw [rPls_encM n M hn hM P hP t k (by omega)]
    have hd : encP (P.drop k) ++ t = encC (P[k]).1 ++ encC (P[k]).2.1 ++ encC (P[k]).2.2 ++ (encP (P.drop (k + 1)) ++ t) := by
      rw [List.drop_eq_getElem_cons (by omega)]
      unfold encP
      simp only [List.flatMap_cons, List.append_assoc]
    simp only
    rw [hd, rPl_encM n M hn hM _ (hP _ (List.getElem_mem _)), ← List.take_succ_eq_append_getElem (by omega)]
theorem decD_enc {c : CM} (h : c.ok) : decD (encCfg c) = some c := by
  have hp := h.p
  have hd := h.d
  have h1 : rCount 1048576 (some (encCfg c)) = ((c.P.length : Int), some (encC c.D.length ++ (encP c.P ++ encD c.D))) := by
    unfold encCfg
    rw [List.append_assoc, List.append_assoc, rCount_enc _ _ (by omega) (by omega) (by omega)]
  have h2 : rCount 1048576 (some (encC c.D.length ++ (encP c.P ++ encD c.D))) = ((c.D.length : Int), some (encP c.P ++ encD c.D)) := by
    rw [rCount_enc _ _ (by omega) (by omega) (by omega)]
  have h3 := rPls_encM c.D.length 1048576 (by omega) (by omega) c.P h.all (encD c.D) c.P.length (Nat.le_refl _)
  have h4 := rFls_enc c.D [] c.D.length (Nat.le_refl _)
  rw [List.take_length, List.drop_length] at h3 h4
  rw [List.append_nil] at h4
  have h3' : rPls 1048576 c.P.length (some (encP c.P ++ encD c.D)) = (c.P, some (encD c.D)) := by simpa [encP] using h3
  have h4' : rFls c.D.length (some (encD c.D)) = (c.D, some []) := by simpa [encD] using h4
  unfold decD
  rw [h1]
  simp only
  rw [h2]
  simp only
  rw [if_pos (by omega)]
  unfold decQ
  rw [Int.toNat_natCast, Int.toNat_natCast, h3']
  simp only
  rw [h4', if_pos ⟨fun p hp => ⟨(h.all p hp).1, (h.all p hp).2.2.2.2.1, (h.all p hp).2.2.2.2.2.2⟩, rfl⟩]
theorem decQ_some {a b : Int} {st : St} {c : CM} (ha : 1 ≤ a ∧ a ≤ 4) (hb : 1 ≤ b ∧ b ≤ 5) (h : decQ a b st = some c) : c.ok ∧ (c.P.length : Int) = a ∧ (c.D.length : Int) = b ∧ st = some (encP c.P ++ encD c.D) := by
  unfold decQ at h
  split at h
  · rename_i hc
    obtain ⟨hm, hd⟩ := hc
    cases h
    generalize hx : rPls 1048576 a.toNat st = x at hm hd ⊢
    obtain ⟨P, x2⟩ := x
    simp only at hm hd ⊢
    generalize hy : rFls b.toNat x2 = y at hd ⊢
    obtain ⟨D, y2⟩ := y
    simp only at hd ⊢
    rw [rDone_iff hd] at hy
    obtain ⟨g1, rfl⟩ := rFls_some hy
    obtain ⟨f1, f2, rfl⟩ := rPls_some hx
    refine ⟨⟨(by first | omega | (simp only; omega)), (by first | omega | (simp only; omega)), fun p hp => ?_⟩, (by first | omega | (simp only; omega)), (by first | omega | (simp only; omega)), by simp⟩
    have := f2 p hp
    have hmm := hm p hp
    refine ⟨hmm.1, this.1, this.2.1, this.2.2.1, ?_, this.2.2.2.2.1, ?_⟩
    · show p.2.1 ≤ (D.length : Int); have := hmm.2.1; omega
    · show p.2.2 ≤ (D.length : Int); have := hmm.2.2; omega
  · cases h
theorem encD_dec {l : List UInt8} {c : CM} (h : decD l = some c) : c.ok ∧ encCfg c = l := by
  unfold decD at h
  split at h
  · rename_i hr
    obtain ⟨hok, ha, hb, hst⟩ := decQ_some ⟨hr.1, hr.2.1⟩ ⟨hr.2.2.1, hr.2.2.2⟩ h
    have h5 : rCount 1048576 (rCount 1048576 (some l)).2 = ((rCount 1048576 (rCount 1048576 (some l)).2).1, some (encP c.P ++ encD c.D)) := by rw [← hst]
    obtain ⟨_, _, _, h4⟩ := count_some h5
    have h4' : rCount 1048576 (some l) = ((rCount 1048576 (some l)).1, some (encC (rCount 1048576 (rCount 1048576 (some l)).2).1 ++ (encP c.P ++ encD c.D))) := by rw [← h4]
    obtain ⟨_, _, _, h3⟩ := count_some h4'
    refine ⟨hok, ?_⟩
    have h3' := Option.some.inj h3
    unfold encCfg
    rw [ha, hb, List.append_assoc, List.append_assoc]
    exact h3'.symm
  · cases h
theorem dec_same (l : List UInt8) : decD l = decI l := by
  cases h : decD l with
  | some c =>
    obtain ⟨hok, rfl⟩ := encD_dec h
    exact (dec_enc hok).symm
  | none =>
    cases h' : decI l with
    | none => rfl
    | some c =>
      obtain ⟨hok, rfl⟩ := enc_dec h'
      rw [decD_enc hok] at h; cases h
theorem rFls_none : ∀ k, (rFls k none).2 = none
  | 0 => rfl
  | k + 1 => by simp only [rFls]; rw [rFls_none k, rCount_none]
theorem rPls_none (M : Int) : ∀ k, (rPls M k none).2 = none
  | 0 => rfl
  | k + 1 => by simp only [rPls, rPl]; rw [rPls_none M k, rCount_none, rCount_none, rCount_none]

/-! the document's New and reader -/
theorem XNew_spec (a b : Int) (w : World) : Calls Try.prog 30 #[.int .i64 a, .int .i64 b] w fun e w' =>
    (¬ (1 ≤ a ∧ a ≤ 4 ∧ 1 ≤ b ∧ b ≤ 5) ∧ e = .returned (.tuple #[.pointer none, .bool false]) ∧ Ext [] w w') ∨ ((1 ≤ a ∧ a ≤ 4 ∧ 1 ≤ b ∧ b ≤ 5) ∧ ∃ q s d, e = .returned (.tuple #[.pointer (some ⟨q, 0, none⟩), .bool true]) ∧
      CfgO 69 w w' q s d ⟨List.replicate a.toNat (0, 0, 0), List.replicate b.toNat false⟩ ∧ Ext [] w w') := by
  refine sh_butteryref17_New_ok _ _ _ _ ?_
  unfold sh_butteryref17_New
  refine VIf.mk (fun hc => ?_) (fun hc => ?_)
  · simp at hc
    exact .inl ⟨by omega, rfl, Ext.refl _ _⟩
  simp at hc
  have hok : CM.ok ⟨List.replicate a.toNat (0, 0, 0), List.replicate b.toNat false⟩ := by
    refine ⟨by simp; omega, by simp; omega, ?_⟩
    intro p hp
    obtain rfl := List.eq_of_mem_replicate hp
    refine ⟨⟨?_, ?_⟩, ?_⟩ <;> simp <;> omega
  have fin : ∀ (W : World) (b1 b2 q : Nat), Bk W b1 (plR.cells (List.replicate a.toNat (0, 0, 0))) 35 → Bk W b2 (blR.cells (List.replicate b.toNat false)) 4 →
      Bk W q [.slice (some ⟨b1, 0, none⟩) a.toNat a.toNat, .slice (some ⟨b2, 0, none⟩) b.toNat b.toNat] 69 → w.heap.size ≤ b1 → w.heap.size ≤ b2 → w.heap.size ≤ q →
      CfgO 69 w W q ⟨some ⟨b1, 0, none⟩, a.toNat, a.toNat⟩ ⟨some ⟨b2, 0, none⟩, b.toNat, b.toNat⟩ ⟨List.replicate a.toNat (0, 0, 0), List.replicate b.toNat false⟩ := by
    intro W b1 b2 q k1 k2 k3 g1 g2 g3
    refine ⟨k3, ⟨Row.of_bk k1 (by rw [Rec.cells_len, List.length_replicate]) (by omega), by simp [rowB]; exact g1⟩, ⟨Row.of_bk k2 (by rw [Rec.cells_len, List.length_replicate]) (by omega), by simp [rowB]; exact g2⟩, g3, hok, by decide, by decide⟩
  refine ⟨fun x e W => ∃ q s d, x = some ⟨q, 0, none⟩ ∧ e = true ∧ CfgO 69 w W q s d ⟨List.replicate a.toNat (0, 0, 0), List.replicate b.toNat false⟩ ∧ Ext [] w W, ?_, ?_⟩
  · intro w1 hw1
    have e1 := Ext.drew' hw1
    refine ⟨?_, ?_⟩
    · refine VMk.i (by omega) (by omega) (by omega) (by omega) fun b1 w2 hb1 hk1 e2 => ?_
      refine VMk.i (by omega) (by omega) (by omega) (by omega) fun b2 w3 hb2 hk2 e3 => ?_
      refine VNw.i fun q w4 hq hk4 e4 => ?_
      have s1 := e1.size; have s2 := e2.size; have s3 := e3.size
      have hk1 := Bk.made plR (0, 0, 0) (n := a.toNat) rfl (k := 3) rfl hk1
      have hk2 := Bk.made blR false (n := b.toNat) rfl (k := 1) rfl hk2
      exact ⟨q, _, _, rfl, rfl, fin w4 b1 b2 q ((hk1.ext e3).ext e4) (hk2.ext e4) hk4 (by omega) (by omega) (by omega), ((e1.then0 e2).then0 e3).then0 e4⟩
    · refine VMk.i (by omega) (by omega) (by omega) (by omega) fun b2 w2 hb2 hk2 e2 => ?_
      refine VMk.i (by omega) (by omega) (by omega) (by omega) fun b1 w3 hb1 hk1 e3 => ?_
      refine VNw.i fun q w4 hq hk4 e4 => ?_
      have s1 := e1.size; have s2 := e2.size; have s3 := e3.size
      have hk1 := Bk.made plR (0, 0, 0) (n := a.toNat) rfl (k := 3) rfl hk1
      have hk2 := Bk.made blR false (n := b.toNat) rfl (k := 1) rfl hk2
      exact ⟨q, _, _, rfl, rfl, fin w4 b1 b2 q (hk1.ext e4) ((hk2.ext e3).ext e4) hk4 (by omega) (by omega) (by omega), ((e1.then0 e2).then0 e3).then0 e4⟩
  · rintro x e w8 ⟨q, s, d, rfl, rfl, h, e8⟩
    exact .inr ⟨by omega, q, s, d, rfl, h, e8⟩

theorem XReader_spec (s : Sl) (l : List UInt8) (w : World) (h : Seg w s.base s.len 1 (bc l)) (hl : l.length ≤ 140737488355328) :
    Calls Try.prog 28 #[.slice s.base s.len s.cap] w fun e w' => ∃ x d : Nat, e = .returned (.pointer (some ⟨x, 0, none⟩)) ∧ RepX w' x d (some l) ∧ Ext [] w w' ∧ w.heap.size ≤ x ∧ w.heap.size ≤ d := by
  refine sh_butteryref01_NewReader_ok _ _ _ ?_
  unfold sh_butteryref01_NewReader
  refine VNw.i fun b w1 hb hk e1 => ?_
  refine VApp.clone hb hk e1 h hl fun s2 w2 h2 e2 => ?_
  refine VNw.i fun x w3 hx hk3 e3 => ?_
  have z2 := e2.size
  obtain ⟨d, hd, hb⟩ := (h2.ext0 e3).bsl x (by omega)
  exact ⟨x, d, rfl, ⟨s2, false, l, hk3, hb, rfl, by simp⟩, e2.then0 e3, by omega, hd⟩
theorem RepX.extT {w w' : World} {x d : Nat} {st : St} {M : List Nat} (h : RepX w x d st) (e : Ext M w w') (t : TypeId) (hM : ∀ b ∈ M, ∃ cs, Bk w b cs t) (n1 : t ≠ 88) (n3 : t ≠ 5) : RepX w' x d st := by
  obtain ⟨s, f, l, hx, hs, hst⟩ := h
  have no : ∀ {b : Nat} {cs : List Value} {u : TypeId}, Bk w b cs u → t ≠ u → b ∉ M := fun hk hne hm => by
    obtain ⟨_, hk'⟩ := hM _ hm
    exact hk'.neT hk hne rfl
  refine ⟨s, f, l, hx.ext e (no hx n1), hs.ext e (fun hz => ?_), hst⟩
  obtain ⟨_, _, _, h3⟩ := hs
  rcases h3 with h3 | ⟨off, cells, _, hk, _⟩
  · exact absurd h3 hz
  · exact no hk n3
theorem RepX.one {w w' : World} {x d b : Nat} {st : St} {cs : List Value} {t : TypeId} (h : RepX w x d st) (e : Ext [b] w w') (hk : Bk w b cs t) (n1 : t ≠ 88) (n3 : t ≠ 5) : RepX w' x d st :=
  h.extT e t (by simp; exact ⟨_, hk⟩) n1 n3
theorem RepX.ne {w : World} {x d b : Nat} {st : St} {cs : List Value} {t : TypeId} (h : RepX w x d st) (hk : Bk w b cs t) (n1 : t ≠ 88) : b ∉ [x] := by
  obtain ⟨s, f, l, hx, hs, hst⟩ := h
  have := hk.neT hx n1
  simpa using this
theorem xOK_spec (x d : Nat) (st : St) (w : World) (h : RepX w x d st) : Calls Try.prog 31 #[.pointer (some ⟨x, 0, none⟩)] w fun e w' => e = .returned (.bool st.isSome) ∧ w' = w := by
  refine sh_butteryref01_Reader_OK_ok _ _ _ ?_
  unfold sh_butteryref01_Reader_OK
  obtain ⟨s, f, l, hx, hs, hst, hf⟩ := h
  refine VNN.i (VLd.i1 (t := .bool) f (Rd.of_bk hx rfl) ⟨?_, rfl⟩)
  subst hst
  cases f <;> rfl
theorem xDone_spec (x d : Nat) (st : St) (w : World) (h : RepX w x d st) : Calls Try.prog 33 #[.pointer (some ⟨x, 0, none⟩)] w fun e w' => e = .returned (.bool (rDone st)) ∧ w' = w := by
  refine sh_butteryref01_Reader_Done_ok _ _ _ ?_
  unfold sh_butteryref01_Reader_Done
  obtain ⟨s, f, l, hx, hs, hst, hf⟩ := h
  have hl := hs.1
  refine VNN.i (VLd.i1 (t := .bool) f (Rd.of_bk hx rfl) ?_)
  refine ⟨⟨x, 0, none⟩, fun _ => rfl, ?_⟩
  refine VLd.s s (Rd.of_bk hx rfl) ⟨?_, rfl⟩
  subst hst
  cases f with
  | true => rfl
  | false => cases l <;> simp at hl <;> simp [rDone, hl] <;> omega

/-! the document's commands -/
theorem XCommand_spec (x : Cmd) (w : World) (h : okX x) : Calls Try.prog 18 #[cmV x] w fun e w' => ∃ b : ByteArray, e = .returned (.string b) ∧ b.data.toList = encX x ∧ Ext [] w w' := by
  refine sh_butteryref17_Command_ok _ _ _ _ _ _ ?_
  unfold sh_butteryref17_Command
  obtain ⟨h0, h1, h2, h3⟩ := h
  have l0 := encC_len x.kind
  have l1 := zz_len h1
  have l2 := zz_len h2
  refine VNw.i fun b1 w1 hb1 hk1 e1 => ?_
  refine VLd.i1 _ (Rd.of_bk hk1 rfl) ?_
  rw [w64 (n := x.kind) (by omega)]
  refine VCall.i (XCount_spec ⟨none, 0, 0⟩ [] x.kind w1 (Seg.nil _ _ _) (by simp)) ?_
  rintro e w2 ⟨b2, rfl, k2, e2⟩
  have hk2 := hk1.ext e2
  refine exW.i1 (t := .sl) b2 rfl (VLd.i1 _ (Rd.of_bk hk2 rfl) ?_)
  refine VCall.i (XNum_spec b2 _ x.shard w2 k2.seg (by simp only [List.nil_append]; omega) h1) ?_
  rintro e w3 ⟨b3, rfl, k3, e3⟩
  have hk3 := hk2.ext e3
  refine exW.i1 (t := .sl) b3 rfl (VLd.i1 _ (Rd.of_bk hk3 rfl) ?_)
  refine VCall.i (XNum_spec b3 _ x.store w3 k3.seg (by simp only [List.nil_append, List.length_append]; omega) h2) ?_
  rintro e w4 ⟨b4, rfl, k4, e4⟩
  have hk4 := hk3.ext e4
  refine exW.i1 (t := .sl) b4 rfl (VLd.i1 _ (Rd.of_bk hk4 rfl) ?_)
  refine VCall.i (XNum_spec b4 _ x.epoch w4 k4.seg (by simp only [List.nil_append, List.length_append]; omega) h3) ?_
  rintro e w5 ⟨b5, rfl, k5, e5⟩
  refine exW.i1 (t := .sl) b5 rfl (VStr.i _ k5.seg fun y hy => ⟨y, rfl, ?_, (((e1.then0 e2).then0 e3).then0 e4).then0 e5⟩)
  rw [hy]; rfl
def retY (o : Option Cmd) : Value := match o with
  | none => .tuple #[.agg #[.int .u8 0, .int .i64 0, .int .i64 0, .int .i64 0], .bool false]
  | some x => .tuple #[cmV x, .bool true]
theorem XReadCommand_spec (b : ByteArray) (w : World) (hb : b.size ≤ 1000000) : Calls Try.prog 16 #[.string b] w fun e w' => e = .returned (retY (decX b.data.toList)) ∧ Ext [] w w' := by
  refine sh_butteryref17_ReadCommand_ok _ _ _ ?_
  unfold sh_butteryref17_ReadCommand
  refine VNw.i fun b0 w0 hb0 hk0 e0 => ?_
  refine VBytes.i fun b1 c1 w1 hb1 hk1 e1 hc1 => ?_
  have hsz := ba_size b
  rw [bc_str] at hk1
  have hseg : Seg w1 (some ⟨b1, 0, none⟩) b.size 1 (bc b.data.toList) := Seg.of_bk hk1 (by simp) (by rw [bc_len, hsz]; simp)
  generalize b.data.toList = l at *
  refine VCall.i (XReader_spec ⟨some ⟨b1, 0, none⟩, b.size, c1⟩ l w1 hseg (by omega)) ?_
  rintro e w2 ⟨x, d, rfl, k2, e2, g1, g2⟩
  refine exW.i1 (t := .ptr) (some ⟨x, 0, none⟩) rfl ?_
  have e02 := (e0.then0 e1).then0 e2
  have hlt0 := hk0.lt
  have hs0 := e0.size
  have hs1 := e1.size
  have hne : b0 ≠ x := by omega
  have hxlt : x < w2.heap.size := by obtain ⟨s, f, l', hx, _⟩ := k2; exact hx.lt
  have hdlt : d ≤ w2.heap.size ∨ True := .inr trivial
  refine VCall.i (xCount_spec x d 255 _ w2 k2) ?_
  rintro e w3 ⟨rfl, k3, e3⟩
  refine exW.i1 (t := .int .i64) _ rfl ?_
  have hkind : IntKind.wrap .u8 (rCount 255 (some l)).1 = (rCount 255 (some l)).1 := by
    have h1 := (rCount_pos 255 (some l)).1
    have h2 := rCount_le (most := 255) (by omega) (some l)
    rw [wrap8]; omega
  have e3w : Ext [] w w3 := e02.then e3 (fun i hi hlt => by simp at hi; omega)
  have hk03 : Bk w3 b0 _ _ := ((hk0.ext e1).ext e2).ext e3 (by simpa using hne)
  refine VNw.i fun p w4 hp hk4 e4 => ?_
  have hs3 := e3.size
  have k4 := k3.ext0 e4
  have hk04 := hk03.ext e4
  have e4w := e3w.then0 e4
  have hpw : w.heap.size ≤ p := by have := e3w.size; omega
  have hxw : w.heap.size ≤ x := by omega
  have hp0 : b0 ∉ [p] := by have := hk03.lt; simp; omega
  have fx : ∀ {W W' : World}, Ext [] w W → Ext [x] W W' → Ext [] w W' := fun a b => a.then b (fun i hi hlt => by simp at hi; omega)
  have fp : ∀ {W W' : World}, Ext [] w W → Ext [p] W W' → Ext [] w W' := fun a b => a.then b (fun i hi hlt => by simp at hi; omega)
  refine VSt.bk hk4 rfl (by simp) fun w5 hk5 e5 => ?_
  have k5 := k4.one e5 hk4 (by decide) (by decide)
  have hk05 := hk04.ext e5 hp0
  have e5w := fp e4w e5
  refine VCall.i (xNum_spec x d _ w5 k5) ?_
  rintro e w6 ⟨rfl, k6, e6⟩
  have hk6 := hk5.ext e6 (k5.ne hk5 (by decide))
  have hk06 := hk05.ext e6 (k5.ne hk05 (by decide))
  have e6w := fx e5w e6
  refine exW.i1 (t := .int .i64) _ rfl (VSt.bk hk6 rfl (by simp) fun w7 hk7 e7 => ?_)
  have k7 := k6.one e7 hk6 (by decide) (by decide)
  have hk07 := hk06.ext e7 hp0
  have e7w := fp e6w e7
  refine VCall.i (xNum_spec x d _ w7 k7) ?_
  rintro e w8 ⟨rfl, k8, e8⟩
  have hk8 := hk7.ext e8 (k7.ne hk7 (by decide))
  have hk08 := hk07.ext e8 (k7.ne hk07 (by decide))
  have e8w := fx e7w e8
  refine exW.i1 (t := .int .i64) _ rfl (VSt.bk hk8 rfl (by simp) fun w9 hk9 e9 => ?_)
  have k9 := k8.one e9 hk8 (by decide) (by decide)
  have hk09 := hk08.ext e9 hp0
  have e9w := fp e8w e9
  refine VCall.i (xNum_spec x d _ w9 k9) ?_
  rintro e w10 ⟨rfl, k10, e10⟩
  have hk10 := hk9.ext e10 (k9.ne hk9 (by decide))
  have hk010 := hk09.ext e10 (k9.ne hk09 (by decide))
  have e10w := fx e9w e10
  refine exW.i1 (t := .int .i64) _ rfl (VSt.bk hk10 rfl (by simp) fun w11 hk11 e11 => ?_)
  have k11 := k10.one e11 hk10 (by decide) (by decide)
  have hk011 := hk010.ext e11 hp0
  have e11w := fp e10w e11
  refine VCall.i (xDone_spec x d _ w11 k11) ?_
  rintro e w12 ⟨rfl, hw⟩
  subst hw
  refine exW.i1 (t := .bool) _ rfl ?_
  have h0w : w.heap.size ≤ b0 := by omega
  unfold decX
  cases hd : rDone (rX (some l)).2 with
  | false =>
    have hd' : rDone (rNum (rNum (rNum (rCount 255 (some l)).2).2).2).2 = false := hd
    rw [hd']
    refine VIf.t rfl ?_
    refine VSt.bk hk011 rfl (by simp) fun w13 hk13 e13 => ?_
    refine ⟨(0 : Int), (0 : Int), (0 : Int), (0 : Int), Rd.of_bk hk13 rfl, ?_⟩
    exact ⟨rfl, e11w.then e13 (fun i hi hlt => by simp at hi; omega)⟩
  | true =>
    have hd' : rDone (rNum (rNum (rNum (rCount 255 (some l)).2).2).2).2 = true := hd
    rw [hd']
    refine VIf.f rfl ?_
    refine ⟨(_ : Int), (_ : Int), (_ : Int), (_ : Int), Rd.of_bk hk11 rfl, ?_⟩
    refine VSt.bk hk011 rfl (by simp) fun w13 hk13 e13 => ?_
    refine ⟨(_ : Int), (_ : Int), (_ : Int), (_ : Int), Rd.of_bk hk13 rfl, ?_⟩
    refine ⟨?_, e11w.then e13 (fun i hi hlt => by simp at hi; omega)⟩
    rw [hkind]; rfl
end Go.Proofs.Ytfihhleaciddpaa
