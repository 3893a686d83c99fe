/-
  Package parts, the document's: a joiner in memory; a message is kept no more.
-/
import Derived.Test.YthpbkkjggnejcaaPartsR
namespace Go.Proofs.Ythpbkkjggnejcaa
open Go.RowKit
set_option maxRecDepth 100000

structure KR where
  key : Ky
  pb : Nat
  tb : Nat
  sl : Slots
def ktC (k : KR) : List Value := [.int .i64 k.key.1, .int .i64 k.key.2, .slice (some ⟨k.pb, 0, none⟩) k.sl.length k.sl.length, .slice (some ⟨k.tb, 0, none⟩) k.sl.length k.sl.length]
def ktR : Rec KR := ⟨ktC, 4, fun _ => rfl, fun _ => rfl, by omega⟩
def absX (K : List KR) : Ab := K.map fun k => (k.key, k.sl)
structure XR (w0 W : World) (xb : Nat) (K : List KR) (rs : Sl) : Prop where
  x : Bk W xb [.slice rs.base rs.len rs.cap] 43
  o : OwnR ktR 82 w0 W rs K
  nd : (K.map (·.key)).Nodup
  le : K.length ≤ 16
  pp : ∀ k ∈ K, Bk W k.pb (strR.cells (psOf k.sl)) 9
  pt : ∀ k ∈ K, Bk W k.tb (boolR.cells (bsOf k.sl)) 4
  ax : w0.heap.size ≤ xb
  ak : ∀ k ∈ K, w0.heap.size ≤ k.pb ∧ w0.heap.size ≤ k.tb
  dis : ∀ k1 ∈ K, ∀ k2 ∈ K, k1.key ≠ k2.key → k1.pb ≠ k2.pb ∧ k1.tb ≠ k2.tb
  ok : ∀ k ∈ K, slotsOk k.sl
def xbs (xb : Nat) (K : List KR) (rs : Sl) : List Nat := xb :: (rowB rs ++ K.flatMap fun k => [k.pb, k.tb])
theorem xbs_mem {xb : Nat} {K : List KR} {rs : Sl} {b : Nat} : b ∈ xbs xb K rs ↔ b = xb ∨ b ∈ rowB rs ∨ ∃ k ∈ K, b = k.pb ∨ b = k.tb := by
  unfold xbs
  simp only [List.mem_cons, List.mem_append, List.mem_flatMap, List.not_mem_nil, or_false]
section
variable {w0 W W' : World} {xb : Nat} {K K' : List KR} {rs : Sl} {M : List Nat}
theorem XR.ext (h : XR w0 W xb K rs) (e : Ext M W W') (hm : ∀ b ∈ xbs xb K rs, b ∉ M) : XR w0 W' xb K rs :=
  ⟨h.x.ext e (hm _ (xbs_mem.2 (.inl rfl))), h.o.ext e fun b hb => hm b (xbs_mem.2 (.inr (.inl hb))), h.nd, h.le,
    fun k hk => (h.pp k hk).ext e (hm _ (xbs_mem.2 (.inr (.inr ⟨k, hk, .inl rfl⟩)))), fun k hk => (h.pt k hk).ext e (hm _ (xbs_mem.2 (.inr (.inr ⟨k, hk, .inr rfl⟩)))), h.ax, h.ak, h.dis, h.ok⟩
theorem XR.ext0 (h : XR w0 W xb K rs) (e : Ext [] W W') : XR w0 W' xb K rs := h.ext e (by simp)
theorem XR.old (h : XR w0 W xb K rs) : ∀ b ∈ xbs xb K rs, w0.heap.size ≤ b ∧ b < W.heap.size := by
  intro b hb
  rcases xbs_mem.1 hb with rfl | hb | ⟨k, hk, rfl | rfl⟩
  · exact ⟨h.ax, h.x.lt⟩
  · exact ⟨h.o.2 b hb, h.o.1.lt b hb⟩
  · exact ⟨(h.ak k hk).1, (h.pp k hk).lt⟩
  · exact ⟨(h.ak k hk).2, (h.pt k hk).lt⟩
/-- what the calls of the document's joiner leave -/
def XTo (w0 W : World) (xb : Nat) (K : List KR) (rs : Sl) (K' : List KR) (W' : World) : Prop :=
  ∃ rs' : Sl, XR w0 W' xb K' rs' ∧ Ext (xbs xb K rs) W W' ∧ ∀ b ∈ xbs xb K' rs', b ∈ xbs xb K rs ∨ W.heap.size ≤ b
def dropX (K : List KR) (who : Ky) : List KR := K.filter fun k => !decide (k.key = who)
theorem dropX_mem {who : Ky} {k : KR} : k ∈ dropX K who ↔ k ∈ K ∧ k.key ≠ who := by
  unfold dropX
  rw [List.mem_filter]
  simp
theorem abs_dropX (K : List KR) (who : Ky) : absX (dropX K who) = dropA (absX K) who := by
  unfold absX dropX dropA
  rw [List.filter_map]
  rfl
theorem cut_out : ∀ (K : List KR), (K.map (·.key)).Nodup → ∀ (i : Nat) (h : i < K.length), K.take i ++ K.drop (i + 1) = dropX K (K[i]).key := by
  intro K
  induction K with
  | nil => intro _ i h; exact absurd h (by simp)
  | cons a t ih =>
    intro hn i h
    rw [List.map_cons, List.nodup_cons] at hn
    cases i with
    | zero =>
      simp only [List.take_zero, List.nil_append, Nat.zero_add, List.drop_succ_cons, List.drop_zero, List.getElem_cons_zero]
      unfold dropX
      rw [List.filter_cons]
      simp only [decide_true, Bool.not_true, Bool.false_eq_true, if_false]
      rw [List.filter_eq_self.2]
      intro k hk
      simp only [Bool.not_eq_true', decide_eq_false_iff_not]
      intro e
      exact hn.1 (by rw [← e]; exact List.mem_map.2 ⟨k, hk, rfl⟩)
    | succ i =>
      have hi : i < t.length := by simpa using h
      simp only [List.take_succ_cons, List.drop_succ_cons, List.getElem_cons_succ, List.cons_append]
      rw [ih hn.2 i hi]
      have hne : ¬ a.key = (t[i]).key := fun e => hn.1 (by rw [e]; exact List.mem_map.2 ⟨_, List.getElem_mem hi, rfl⟩)
      unfold dropX
      rw [List.filter_cons]
      simp [hne]
theorem drop_spec (i : Nat) (hi : i < K.length) (h : XR w0 W xb K rs) :
    Calls Try.prog 31 #[.pointer (some ⟨xb, 0, none⟩), .int .i64 (i : Int)] W fun e w' => e = .returned (.tuple #[]) ∧ XTo w0 W xb K rs (dropX K (K[i]).key) w' := by
  refine sh_butteryref11_Joiner_drop_ok _ _ _ _ ?_
  unfold sh_butteryref11_Joiner_drop
  have hl := h.o.len
  have hcap := h.o.cap
  have hle := h.le
  have hold := h.old
  have zx : w0.heap.size ≤ W.heap.size := by have := h.ax; have := h.x.lt; omega
  refine VNN.i (VLd.s rs (Rd.of_bk h.x rfl) (VCk.i (by omega) ?_))
  have c1 := h.o.in_.cut 0 i (by omega) (by omega)
  rw [List.drop_zero] at c1
  rw [Int.toNat_natCast]
  refine VApp.recB (r := ktR) (news := K.take i) (OwnR.nil ktR _ W W) (Nat.le_refl _) c1.1 (by rw [List.length_take]; omega) rfl (by simp only [List.length_nil]; omega) (by simp only [List.length_nil]; omega) fun l1 w1 h1 e1 b1 => ?_
  have e1 : Ext [] W w1 := e1.mono (by simp [rowB])
  have hx1 := h.ext0 e1
  refine VNN.i (VLd.s rs (Rd.of_bk hx1.x rfl) ?_)
  rw [w64 (n := (i : Int) + 1) (by omega)]
  refine VCk.i (by omega) ?_
  have c2 := hx1.o.in_.cut (i + 1) K.length (by omega) (by omega)
  rw [List.take_length] at c2
  have ht : ((i : Int) + 1).toNat = i + 1 := by omega
  rw [ht, hl]
  refine VApp.recB (r := ktR) (news := K.drop (i + 1)) (h1.mono (w0 := W) (Nat.le_refl _)) e1.size c2.1 (by rw [List.length_drop]) rfl (by simp only [List.nil_append, List.length_take]; omega) (by simp only [List.nil_append, List.length_take]; omega) fun l2 w2 h2 e2 b2 => ?_
  rw [List.nil_append, cut_out K h.nd i hi] at h2
  have e12 : Ext [] W w2 := e1.then e2 (fun b hb hlt => by have := h1.2 b hb; omega)
  have hx2 := h.ext0 e12
  refine VNN.i (VSt.bk hx2.x rfl (by simp) fun w3 hk3 e3 => ⟨rfl, l2, ?_, (e12.mono (N := xbs xb K rs) (by simp)).then e3 (fun b hb _ => by simp at hb; subst hb; exact xbs_mem.2 (.inl rfl)), ?_⟩)
  · have hk3 : Bk w3 xb [.slice l2.base l2.len l2.cap] 43 := hk3
    have hxb := (hold xb (xbs_mem.2 (.inl rfl))).2
    refine ⟨hk3, (h2.mono zx).ext e3 (fun b hb hm => by simp at hm; have := h2.2 b hb; omega), ?_, ?_, ?_, ?_, h.ax, ?_, ?_, ?_⟩
    · exact List.Nodup.sublist (List.Sublist.map _ List.filter_sublist) h.nd
    · exact Nat.le_trans (List.length_filter_le _ _) h.le
    · intro k hk
      have hk := (dropX_mem.1 hk).1
      exact (hx2.pp k hk).ext e3 (by simp; exact fun e => (hx2.pp k hk).neT hx2.x (by decide) e)
    · intro k hk
      have hk := (dropX_mem.1 hk).1
      exact (hx2.pt k hk).ext e3 (by simp; exact fun e => (hx2.pt k hk).neT hx2.x (by decide) e)
    · exact fun k hk => h.ak k (dropX_mem.1 hk).1
    · exact fun k1 h1 k2 h2 => h.dis k1 (dropX_mem.1 h1).1 k2 (dropX_mem.1 h2).1
    · exact fun k hk => h.ok k (dropX_mem.1 hk).1
  · intro b hb
    rcases xbs_mem.1 hb with rfl | hb | ⟨k, hk, hb⟩
    · exact .inl (xbs_mem.2 (.inl rfl))
    · exact .inr (h2.2 b hb)
    · exact .inl (xbs_mem.2 (.inr (.inr ⟨k, (dropX_mem.1 hk).1, hb⟩)))
end
end Go.Proofs.Ythpbkkjggnejcaa
