/-
  Package node: NodeNames.
-/
import Derived.Test.YtknohdgcigcmdaaNodeM
namespace Go.Proofs.Ytknohdgcigcmdaa
open Go.RowKit
set_option maxRecDepth 100000

theorem enc_no {n : Nd} (h : okN n = false) : encN n = ([], 4) := by unfold encN; rw [h]; rfl
theorem leafEnc {c : Sl} {L : List Ce} {W : World} (h : InR ceR W c L) (hs : Small ⟨true, L, []⟩) {K : Int → World → Prop} (k : ∀ W', Ext [] W W' → K (encN ⟨true, L, []⟩).2 W') :
    VDyn none Try.prog (.func (.func 29) #[] #[]) #[.slice c.base c.len c.cap] W (.agg #[.bool false, .slice none 0 0, .slice none 0 0]) fun (r0 : Bool) (r1 : Sl) (r2 : Sl) (w3 : World) =>
    VCall none Try.prog 24 #[.agg #[.bool r0, .slice r1.base r1.len r1.cap, .slice r2.base r2.len r2.cap]] w3 (.tuple #[.slice none 0 0, .int .i64 0]) fun (q0 : Sl) (q1 : Int) (w4 : World) =>
    VSet q1 fun (a : Int) => K a w4 := by
  refine VDyn.i (by kernel_rfl) (VCall.i (R0 := fun e w' => e = .returned (.agg (nhC true c ⟨none, 0, 0⟩).toArray) ∧ Ext [] W w') ?_ ?_)
  · refine sh_butterylaw06_NodeNames_1_ok _ _ _ ?_
    unfold sh_butterylaw06_NodeNames_1
    refine VNw.i fun b w1 hb hk1 e1 => VSt.bk hk1 rfl (by simp) fun w2 hk2 e2 => ?_
    have hk2 : Bk w2 b (nhC true c ⟨none, 0, 0⟩) 30 := hk2
    exact VLd.nh true c ⟨none, 0, 0⟩ (Rd.of_bk hk2 rfl) ⟨rfl, e1.then e2 (fun i hi hlt => by simp at hi; omega)⟩
  rintro e w3 ⟨rfl, e3⟩
  refine exW.i3 (t := .bool) (u := .sl) (v := .sl) true c ⟨none, 0, 0⟩ rfl (VCall.i (Encode_spec c ⟨none, 0, 0⟩ ⟨true, L, []⟩ w3 ⟨h.ext0 e3, InR.nil _⟩ hs) ?_)
  rintro e w4 ⟨s4, rfl, h4, e4⟩
  exact exW.i2 (t := .sl) (u := .int .i64) s4 _ rfl (VSet.i (k w4 (e3.then0 e4)))
theorem decGo {s : Sl} {l : List UInt8} {W : World} (h : In W s l) {K : Bool → Sl → Sl → Int → World → Prop} (k : ∀ c k W', OwnN 48 W W' c k (decN l).1 → Ext [] W W' → K (decN l).1.leaf c k (decN l).2 W') :
    VCall none Try.prog 28 #[.slice s.base s.len s.cap] W (.tuple #[.agg #[.bool false, .slice none 0 0, .slice none 0 0], .int .i64 0]) fun (r0 : Bool) (r1 : Sl) (r2 : Sl) (r3 : Int) (w' : World) => K r0 r1 r2 r3 w' := by
  refine VCall.i (Decode_spec s l W h) ?_
  rintro e w' ⟨c, kk, rfl, ho, e'⟩
  exact exW.i4 (t := .bool) (u := .sl) (v := .sl) (q := .int .i64) _ c kk _ rfl (k c kk w' ho e')
/-- a cell of the greatest size -/
structure Lz (j : Nat) (c : Ce) : Prop where
  key : c.key.data.toList = UInt8.ofNat (j % 256) :: List.replicate 47 0
  val : c.val.data.toList = UInt8.ofNat (j % 256) :: List.replicate 63 0
  long : c.long = 0
  size : c.size = 0
theorem Lz.sz {j : Nat} {c : Ce} (h : Lz j c) : c.key.size = 48 ∧ c.val.size = 64 := by
  rw [ba_size, ba_size, h.key, h.val]
  simp
theorem Lz.may {j : Nat} {c : Ce} (h : Lz j c) : mayC true c = true := by
  obtain ⟨h1, h2⟩ := h.sz
  unfold mayC
  rw [if_neg (by omega), if_neg (by simp), if_pos h.long, h.size, h2]
  rfl
theorem Lz.len {j : Nat} {c : Ce} (h : Lz j c) : (cellB true c).length = 115 := by
  obtain ⟨h1, h2⟩ := h.sz
  have c0 : encC 0 = [0] := encC_sm 0 (by omega)
  unfold cellB
  rw [encS_sm c.key (by omega), if_pos rfl, if_pos h.long, h.long, c0, encS_sm c.val (by omega), h.key, h.val]
  simp
theorem Lz.lt {j : Nat} {c e : Ce} (h : Lz j c) (k : Lz (j + 1) e) (hj : j < 200) : ltB c.key e.key = true := by
  rw [ltB_l, h.key, k.key]
  unfold Op.bytesLess
  have : UInt8.ofNat (j % 256) < UInt8.ofNat ((j + 1) % 256) := by
    rw [UInt8.lt_iff_toNat_lt, ofNat8 (by omega), ofNat8 (by omega)]
    omega
  simp [this]
theorem zs_ok {L : List Ce} (hL : ∀ j (hj : j < L.length), Lz j L[j]) (hn : L.length ≤ 9) : okN ⟨true, L, []⟩ = true := by
  have : okC true L = true := okC_yes fun j hj => by
    unfold stepC
    rw [getD_at hj, (hL j hj).may]
    by_cases h0 : j = 0
    · subst h0; rfl
    · have hj1 : j - 1 < L.length := by omega
      have h1 := hL (j - 1) hj1
      have h2 := hL j hj
      have h2' : Lz (j - 1 + 1) L[j] := by rw [show j - 1 + 1 = j by omega]; exact h2
      rw [getD_at hj1, h1.lt h2' (by omega)]
      simp
  unfold okN
  show (okC true L && _) = true
  rw [this]; rfl
theorem zs_len {L : List Ce} (hL : ∀ j (hj : j < L.length), Lz j L[j]) (hn : L.length ≤ 9) : (bytesN ⟨true, L, []⟩).length = 2 + 115 * L.length := by
  have h : ∀ (M : List Ce), (∀ c ∈ M, (cellB true c).length = 115) → (M.flatMap (cellB true)).length = 115 * M.length := by
    intro M
    induction M with
    | nil => intro _; rfl
    | cons a M ih =>
      intro hM
      rw [List.flatMap_cons, List.length_append, ih (fun c hc => hM c (by simp [hc])), hM a (by simp), List.length_cons]
      omega
  have h2 := h L (fun c hc => by
    obtain ⟨j, hj, rfl⟩ := List.mem_iff_getElem.1 hc
    exact (hL j hj).len)
  unfold bytesN headB
  have e1 : enc 1 = [1] := enc_small (by omega)
  have e2 : encC ((L.length : Nat) : Int) = [UInt8.ofNat L.length] := encC_sm _ (by omega)
  simp only [if_true, List.append_nil, List.length_append]
  rw [h2, e1, e2]
  simp only [List.length_cons, List.length_nil]
theorem zs_small {L : List Ce} (hL : ∀ j (hj : j < L.length), Lz j L[j]) (hn : L.length ≤ 9) : Small ⟨true, L, []⟩ := ⟨by simp only; omega, by simp, fun c hc => by
  obtain ⟨j, hj, rfl⟩ := List.mem_iff_getElem.1 hc
  obtain ⟨h1, h2⟩ := (hL j hj).sz
  exact ⟨by show (L[j]).key.size ≤ 100000; rw [h1]; omega, by show (L[j]).val.size ≤ 100000; rw [h2]; omega⟩⟩
theorem zs_enc {L : List Ce} (hL : ∀ j (hj : j < L.length), Lz j L[j]) (hn : L.length ≤ 9) : (encN ⟨true, L, []⟩).2 = if 512 < 2 + 115 * L.length then 40 else 0 := by
  unfold encN
  rw [if_pos (zs_ok hL hn), zs_len hL hn]
  split <;> rfl
theorem one_no {c : Ce} (h : mayC true c = false) : (encN ⟨true, [c], []⟩).2 = 4 := by
  rw [enc_no]
  unfold okN
  have : okC true [c] = false := okC_no (m := 0) (by simp) (by unfold stepC; show (mayC true c && _) = false; rw [h]; rfl)
  show (okC true [c] && _) = false
  rw [this]; rfl
theorem dec_page (t : List UInt8) (ht : t.length = 510) : decN (1 :: 0 :: t) = if t.any (fun x => x != 0) then (zNd, 4) else (⟨true, [], []⟩, 0) := by
  have c1 : encC 1 = [1] := encC_sm 1 (by omega)
  have c0 : encC 0 = [0] := encC_sm 0 (by omega)
  have r1 : rCount 1 (some (1 :: 0 :: t)) = (1, some (0 :: t)) := by
    have := rCount_enc 1 1 (by omega) (by omega) (by omega) (0 :: t)
    rw [c1] at this
    exact this
  have r2 : rCount 512 (some (0 :: t)) = (0, some t) := by
    have := rCount_enc 512 0 (by omega) (by omega) (by omega) t
    rw [c0] at this
    exact this
  have hlf : leafR (1 :: 0 :: t) = true := by unfold leafR; rw [r1]; rfl
  have hct : cntR (1 :: 0 :: t) = 0 := by unfold cntR; rw [r1, r2]; rfl
  have hcs : csR (1 :: 0 :: t) = ([], some t) := by unfold csR; rw [hct, r1, r2]; rfl
  have hks : ksR (1 :: 0 :: t) = ([], some t) := by unfold ksR; rw [hlf, if_pos rfl, hcs]
  have hrw : rawN (1 :: 0 :: t) = ⟨true, [], []⟩ := by unfold rawN; rw [hlf, hcs, hks]
  have htl : tailR (1 :: 0 :: t) = t := by
    unfold tailR
    rw [hks]
    have : (1 :: 0 :: t : List UInt8).length - lenO (some t) = 2 := by
      show t.length + 1 + 1 - t.length = 2
      omega
    rw [this]; rfl
  have hok : okN ⟨true, [], []⟩ = true := rfl
  unfold decN
  rw [if_neg (by simp only [List.length_cons]; omega)]
  have hg : goodR (1 :: 0 :: t) = !t.any (fun x => x != 0) := by
    unfold goodR
    rw [hks, hrw, hok, htl]
    simp
  rw [hg, hrw]
  cases t.any (fun x => x != 0) <;> rfl
theorem dec_nil : decN [] = (zNd, 4) := by
  have r1 : ∀ m : Int, rCount m (some []) = (0, none) := fun m => by unfold rCount; rfl
  have hn : ∀ m : Int, rCount m none = (0, none) := fun m => rfl
  have hks : (ksR []).2 = none := by
    have hlf : leafR [] = false := by unfold leafR; rw [r1]; rfl
    have hcs : csR [] = ([], none) := by
      unfold csR cntR
      rw [r1, hn]
      exact rCes_none _ _
    unfold ksR
    rw [hlf, hcs, rKs_none]
    rfl
  unfold decN goodR
  rw [hks]
  rfl
end Go.Proofs.Ytknohdgcigcmdaa
