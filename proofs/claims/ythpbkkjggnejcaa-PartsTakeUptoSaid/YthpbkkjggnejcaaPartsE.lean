/-
  Package parts: keys in a row and in a map; all of one key deleted from a row.
-/
import Derived.Test.YthpbkkjggnejcaaPartsD
import Derived.Test.YthpbkkjggnejcaaMapB
namespace Go.Proofs.Ythpbkkjggnejcaa
open Go.RowKit
set_option maxRecDepth 100000

abbrev Ky := Int × Int
def kyR : Rec Ky := ⟨fun p => [.int .i64 p.1, .int .i64 p.2], 2, fun _ => rfl, fun _ => rfl, by omega⟩
theorem zero_run {P : Program} {t : TypeId} {z : Value} (hz : zeroOf P t = some z) (w : World) : (zeroValue t).run P w = .ok z w := by
  obtain ⟨i, hi, hiz, _, _⟩ := info_of_zero hz
  simp [zeroValue, typeInfo, hi, hiz]
def kyK : Keys Try.prog 61 69 70 Ky (Option Addr) where
  f p := .agg #[.int .i64 p.1, .int .i64 p.2]
  g n := .pointer n
  z := none
  und := by kernel_rfl
  zero w := zero_run (by kernel_rfl) w
  wide := by kernel_rfl
  check w em a := pureU_run _ (by kernel_rfl) w
  eq w a b := by
    have h : structEq Try.prog 69 (.agg #[.int .i64 a.1, .int .i64 a.2]) (.agg #[.int .i64 b.1, .int .i64 b.2]) = some ((a.1 == b.1) && (a.2 == b.2)) := by kernel_rfl
    refine ⟨_, (run_structEq (w := w) h).1, ?_⟩
    simp only [Bool.and_eq_true, beq_iff_eq]
    constructor
    · rintro ⟨h1, h2⟩
      exact Prod.ext h1 h2
    · rintro rfl; exact ⟨rfl, rfl⟩
  stay a := by simp [Instr.sameBits]

/-- the question 'is it that key?' -/
theorem isKey_spec (x who : Ky) (b : Nat) (t : TypeId) (w : World) (hb : Bk w b [.int .i64 who.1, .int .i64 who.2] t) :
    Calls Try.prog 42 #[.agg #[.int .i64 x.1, .int .i64 x.2], .pointer (some ⟨b, 0, none⟩)] w fun e w' => e = .returned (.bool (decide (x = who))) ∧ Ext [] w w' := by
  refine sh_parts_Joiner_forget_1_ok _ _ _ _ _ ?_
  unfold sh_parts_Joiner_forget_1
  refine VNw.i fun b1 w1 hb1 hk1 e1 => ?_
  refine VLd.i2 (t := .int .i64) (u := .int .i64) x.1 x.2 (Rd.of_bk hk1 rfl) (VLd.i2 (t := .int .i64) (u := .int .i64) who.1 who.2 (Rd.of_bk (hb.ext e1) rfl) ⟨?_, e1⟩)
  congr 2
  rw [Bool.eq_iff_iff, decide_eq_true_eq]
  simp only [Bool.and_eq_true, beq_iff_eq]
  exact ⟨fun ⟨h1, h2⟩ => Prod.ext h1 h2, fun h => by subst h; exact ⟨rfl, rfl⟩⟩
theorem askKey {x who : Ky} {b : Nat} {t : TypeId} {w : World} (hb : Bk w b [.int .i64 who.1, .int .i64 who.2] t) {K : Bool → World → Prop} (k : ∀ w', Ext [] w w' → K (decide (x = who)) w') :
    VDyn none Try.prog (.func (.func 42) #[] #[.pointer (some ⟨b, 0, none⟩)]) #[.agg #[.int .i64 x.1, .int .i64 x.2]] w (.bool false) fun (r : Bool) (w' : World) => K r w' := by
  refine VDyn.i (by kernel_rfl) (VCall.i (isKey_spec x who b t w hb) ?_)
  rintro e w' ⟨rfl, e'⟩
  exact exW.i1 (t := .bool) _ rfl (k w' e')
theorem Index_spec (s : Sl) (L : List Ky) (who : Ky) (b : Nat) (t : TypeId) (w : World) (h : InR kyR w s L) (hb : Bk w b [.int .i64 who.1, .int .i64 who.2] t) :
    Calls Try.prog 60 #[.slice s.base s.len s.cap, .func (.func 42) #[] #[.pointer (some ⟨b, 0, none⟩)]] w fun e w' =>
      ∃ i : Nat, i ≤ L.length ∧ (∀ j (hj : j < L.length), j < i → L[j] ≠ who) ∧ (∀ hi : i < L.length, L[i] = who) ∧ e = .returned (.int .i64 (if i < L.length then (i : Int) else -1)) ∧ Ext [] w w' := by
  refine sh_slices_IndexFunc_ok _ _ _ _ ?_
  unfold sh_slices_IndexFunc
  have hl := h.len
  have hcap := h.2
  rw [hl]
  refine ⟨fun k i W => ∃ m : Nat, i = (m : Int) ∧ m ≤ L.length ∧ k = L.length - m ∧ (∀ j (hj : j < L.length), j < m → L[j] ≠ who) ∧ Ext [] w W, ⟨_, 0, rfl, by omega, rfl, fun j hj h0 => by omega, Ext.refl _ _⟩, ?_⟩
  rintro k i w1 ⟨m, rfl, hm, rfl, hno, e1⟩
  refine VIf.mk (fun hc => ?_) (fun hc => ?_)
  · have hm' : m < L.length := by simp at hc; omega
    have h1 := (h.ext0 e1).1
    rw [hl] at h1
    refine VSet.i (VIx.i' (r := kyR) h1 hm' fun a hr => VLd.i2 (t := .int .i64) (u := .int .i64) (L[m]).1 (L[m]).2 hr ?_)
    refine askKey (hb.ext e1) fun w2 e2 => VIf.mk (fun hd => ?_) (fun hd => ?_)
    · refine VSet.i ⟨m, hm, hno, fun _ => of_decide_eq_true hd, by rw [if_pos hm'], e1.then0 e2⟩
    · refine ⟨_, (show L.length - (m + 1) < L.length - m by omega), m + 1, w64 (n := (m : Int) + 1) (by omega), by omega, rfl, fun j hj hlt => ?_, e1.then0 e2⟩
      by_cases hjm : j < m
      · exact hno j hj hjm
      · obtain rfl : j = m := by omega
        exact of_decide_eq_false hd
  · have hmm : m = L.length := by simp at hc; omega
    exact ⟨m, hm, hno, fun hi => by omega, by rw [if_neg (by omega)], e1⟩
def rest1 (L : List Ky) (who : Ky) : List Ky := L.filter fun x => !decide (x = who)
theorem rest1_none {L : List Ky} {who : Ky} (h : ∀ x ∈ L, x ≠ who) : rest1 L who = L := by
  unfold rest1
  rw [List.filter_eq_self]
  intro x hx
  simp [h x hx]
theorem rest1_len (L : List Ky) (who : Ky) : (rest1 L who).length ≤ L.length := List.length_filter_le _ _
theorem rest1_snoc (L : List Ky) (x who : Ky) : rest1 (L ++ [x]) who = if x = who then rest1 L who else rest1 L who ++ [x] := by
  unfold rest1
  rw [List.filter_append]
  by_cases h : x = who
  · simp [h]
  · simp [h]
theorem zeros_eq (n : Nat) : (Builtin.zeroCells #[.int .i64 0, .int .i64 0] n).toList = kyR.cells (List.replicate n (0, 0)) :=
  madeR kyR (0, 0) #[.int .i64 0, .int .i64 0] rfl n
/-- what stands behind is cleared -/
theorem clear_run {w w0 : World} {s : Sl} {C : List Ky} {i : Nat} {ty : TypeId} (h : OwnR kyR 69 w0 w s C) (hi : i ≤ C.length) :
    ∃ w', (Builtin.clear_ #[62] ty #[.slice (cutB s.base s.cap 2 i) (s.len - i) (s.cap - i)]).run Try.prog w = .ok (.tuple #[]) w' ∧ OwnR kyR 69 w0 w' ⟨s.base, i, s.cap⟩ (C.take i) ∧ Ext (rowB s) w w' := by
  have hl := h.len
  have hu : Try.prog.underlying 62 = some (.slice 69) := by kernel_rfl
  have hz : ∀ w : World, (zeroValue 69).run Try.prog w = .ok (.agg #[.int .i64 0, .int .i64 0]) w := zero_run (by kernel_rfl)
  obtain ⟨⟨h1, h2, h3, h4⟩, h5⟩ := h
  have hrest : ∀ {w' : World} {b : Nat} {rest : List Value}, s.base = some ⟨b, 0, none⟩ → Bk w' b (kyR.cells (C.take i) ++ rest) 69 → (kyR.cells (C.take i)).length + rest.length = s.cap * 2 → OwnR kyR 69 w0 w' ⟨s.base, i, s.cap⟩ (C.take i) := fun hb hk hlen =>
    ⟨⟨by rw [Rec.cells_len, List.length_take, Nat.min_eq_left hi], by simp only; omega, h3, .inr ⟨_, _, hb, hk, hlen⟩⟩, h5⟩
  have hsplit : ∀ rest : List Value, kyR.cells C ++ rest = kyR.cells (C.take i) ++ (kyR.cells (C.drop i) ++ rest) := fun rest => by
    rw [← List.append_assoc, ← Rec.cells_app, List.take_append_drop]
  by_cases h0 : s.len - i = 0
  · refine ⟨w, ?_, ?_, Ext.refl _ _⟩
    · rw [h0]
      cases hc : cutB s.base s.cap 2 i <;> simp [Builtin.clear_, und hu]
    · rcases h4 with ⟨hb, hc⟩ | ⟨b, rest, hb, hk, hlen⟩
      · have hC : C = [] := List.eq_nil_of_length_eq_zero (by omega)
        subst hC
        have : i = 0 := by simpa using hi
        subst this
        exact ⟨⟨rfl, by simp, h3, .inl ⟨hb, hc⟩⟩, h5⟩
      · rw [hsplit] at hk
        refine hrest hb hk ?_
        rw [List.length_append, ← Nat.add_assoc, ← List.length_append, ← Rec.cells_app, List.take_append_drop]
        exact hlen
  · rcases h4 with ⟨hb, hc⟩ | ⟨b, rest, hb, hk, hlen⟩
    · omega
    have hcut : cutB s.base s.cap 2 i = some ⟨b, i * 2, none⟩ := by
      unfold cutB
      rw [if_neg (by omega), hb]
      simp
    have hcl : (kyR.cells C).length = C.length * 2 := Rec.cells_len C
    have hzl : (kyR.cells (List.replicate (s.len - i) (0, 0))).length = (s.len - i) * 2 := by rw [Rec.cells_len, List.length_replicate]; rfl
    have hfit : i * 2 + (kyR.cells (List.replicate (s.len - i) (0, 0))).length ≤ (kyR.cells C ++ rest).length := by rw [hzl, List.length_append, hcl]; omega
    obtain ⟨hk', e'⟩ := sets_bk hk hfit rfl
    have hrun := run_sets (P := Try.prog) (vs := kyR.cells (List.replicate (s.len - i) (0, 0))) (Rec.cells_all _) (Wr.of_bk hk hfit)
    obtain ⟨m, hm⟩ : ∃ m, s.len - i = m + 1 := ⟨s.len - i - 1, by omega⟩
    refine ⟨_, ?_, hrest (rest := (kyR.cells (List.replicate (s.len - i) (0, 0))) ++ (kyR.cells C ++ rest).drop (i * 2 + (kyR.cells (List.replicate (s.len - i) (0, 0))).length)) hb ?_ ?_, e'.mono (by simp [rowB, hb])⟩
    · rw [hcut]
      rw [← zeros_eq] at hrun ⊢
      rw [hm] at hrun ⊢
      simp [Builtin.clear_, und hu, hz, Value.cells, hrun]
    · have ht : (kyR.cells C ++ rest).take (i * 2) = kyR.cells (C.take i) := by
        rw [hsplit, List.take_append_of_le_length (by rw [Rec.cells_len, List.length_take, Nat.min_eq_left hi]; exact Nat.le_refl _), List.take_of_length_le]
        rw [Rec.cells_len, List.length_take, Nat.min_eq_left hi]; exact Nat.le_refl _
      rw [ht, List.append_assoc] at hk'
      exact hk'
    · have hlen : (kyR.cells C).length + rest.length = s.cap * 2 := hlen
      have htl : (kyR.cells (C.take i)).length = i * 2 := by rw [Rec.cells_len, List.length_take, Nat.min_eq_left hi]; rfl
      rw [List.length_append, hzl, List.length_drop, List.length_append, hcl, htl]
      rw [hcl] at hlen
      omega
end Go.Proofs.Ythpbkkjggnejcaa
