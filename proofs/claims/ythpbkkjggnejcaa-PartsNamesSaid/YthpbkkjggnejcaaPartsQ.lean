/-
  Package parts: PartsNames.
-/
import Derived.Test.YthpbkkjggnejcaaPartsP
namespace Go.Proofs.Ythpbkkjggnejcaa
open Go.RowKit
set_option maxRecDepth 100000

theorem Take_nil (fr : Int) (s : Sl) (w : World) : Calls Try.prog 13 #[.pointer none, .int .i64 fr, .slice s.base s.len s.cap] w fun e w' => e = .returned (.tuple #[.slice none 0 0, .bool false, .int .i64 2]) ∧ w' = w := by
  refine sh_parts_Joiner_Take_ok _ _ _ _ _ ?_
  unfold sh_parts_Joiner_Take
  exact VIf.t rfl ⟨rfl, rfl⟩
theorem Len_nil (w : World) : Calls Try.prog 18 #[.pointer none] w fun e w' => e = .returned (.int .i64 0) ∧ w' = w := by
  refine sh_parts_Joiner_Len_ok _ _ _ ?_
  unfold sh_parts_Joiner_Len
  exact VIf.t rfl ⟨rfl, rfl⟩
/-- a joiner with sixteen messages lets the first one go -/
theorem take_new16 {A : Ab} {fr n : Int} {l : List UInt8} {x : ByteArray} {N pl : Nat} (h : readP l = (⟨n, (pl : Int), (N : Int), x⟩, 0)) (hf : findA A (fr, n) = none) (hN : 2 ≤ N) (hp : pl < N) (hA : A.length = 16) :
    takeP A fr l = (A.tail ++ [((fr, n), putS (List.replicate N none) pl x)], [], false, 0) := by
  have hg : (List.replicate N (none : Option ByteArray))[pl]? = some none := by rw [List.getElem?_replicate, if_pos hp]
  have hl := left_set (d := x) hg
  rw [leftOf_rep] at hl
  have hps : putS (List.replicate N none) pl x = (List.replicate N none).set pl (some x) := by unfold putS; rw [if_pos hg]
  have h2 : takeA2 A (fr, n) N = A.tail ++ [((fr, n), List.replicate N none)] := by
    unfold takeA2 roomA
    rw [hf]
    simp only
    rw [if_pos hA]
  have h1 : takeA1 A (fr, n) (N : Int) = A := by unfold takeA1; rw [hf]
  have hft : ∀ x ∈ A.tail, x.1 ≠ (fr, n) := fun x hx => findA_key hf x (List.mem_of_mem_tail hx)
  have hfn : findA A.tail (fr, n) = none := by
    unfold findA
    rw [List.find?_eq_none.2]
    · rfl
    · intro x hx
      simpa using hft x hx
  have h3 : findA (A.tail ++ [((fr, n), List.replicate N none)]) (fr, n) = some (List.replicate N none) := by rw [findA_app, hfn]; simp
  have h4 : setA (A.tail ++ [((fr, n), List.replicate N none)]) (fr, n) (putS (List.replicate N none) pl x) = A.tail ++ [((fr, n), putS (List.replicate N none) pl x)] := by
    unfold setA
    rw [List.map_append]
    have : (A.tail.map fun k => if k.1 = (fr, n) then ((fr, n), putS (List.replicate N none) pl x) else k) = A.tail := by
      conv => rhs; rw [← List.map_id A.tail]
      apply List.map_congr_left
      intro k hk
      rw [if_neg (hft k hk)]; rfl
    rw [this]
    simp
  unfold takeP
  rw [h]
  simp only [ne_eq, not_true_eq_false, if_false, h1, h2, h3, h4, Int.toNat_natCast, Option.getD_some]
  rw [if_neg (by omega), if_pos (by rw [hps]; omega)]
/-- the messages a, a+1, .. of which the same is there -/
def Ak (a n : Nat) (s : Slots) : Ab := (List.range' a n).map fun (i : Nat) => (((1 : Int), (i : Int)), s)
theorem Ak_len (a n : Nat) (s : Slots) : (Ak a n s).length = n := by simp [Ak]
theorem Ak_find (a n : Nat) (s : Slots) (j : Nat) : findA (Ak a n s) (1, (j : Int)) = if a ≤ j ∧ j < a + n then some s else none := by
  unfold Ak findA
  induction n generalizing a with
  | zero => simp
  | succ n ih =>
    rw [List.range'_succ, List.map_cons, List.find?_cons]
    by_cases h : a = j
    · subst h
      simp
    · have h1 : ¬ (((1 : Int), (a : Int)) = ((1 : Int), (j : Int))) := fun e => h (by have := congrArg Prod.snd e; simp at this; omega)
      simp only [h1, decide_false]
      rw [ih (a + 1)]
      by_cases h2 : a + 1 ≤ j ∧ j < a + 1 + n
      · rw [if_pos h2, if_pos (by omega)]
      · rw [if_neg h2, if_neg (by omega)]
theorem Ak_snoc (a n : Nat) (s : Slots) : Ak a n s ++ [(((1 : Int), ((a + n : Nat) : Int)), s)] = Ak a (n + 1) s := by
  unfold Ak
  rw [List.range'_concat, List.map_append]
  simp
theorem Ak_tail (a n : Nat) (s : Slots) : (Ak a (n + 1) s).tail = Ak (a + 1) n s := by
  unfold Ak
  rw [List.range'_succ]; rfl
theorem pk0 : pkt 0 0 1 [] = frame 1 [0, 0, 1, 0] := by
  have h0 : encC 0 = [0] := by
    show encC ((0 : Nat) : Int) = _
    unfold encC
    rw [if_pos (by omega), Int.toNat_natCast, enc_small (by omega)]; rfl
  have h1 : encC 1 = [1] := by
    show encC ((1 : Nat) : Int) = _
    unfold encC
    rw [if_pos (by omega), Int.toNat_natCast, enc_small (by omega)]; rfl
  unfold pkt bodyP encB
  rw [h0, h1, List.length_nil, enc_small (by omega)]
  rfl
theorem open_bad : openF ((frame 1 [0, 0, 1, 0]).set 3 77) = (0, [], 30) := by decide +kernel
theorem open_x : openF [120] = (0, [], 4) := by decide +kernel
theorem cut_any (n : Int) (s : Sl) (l : List UInt8) {W : World} (hs : In W s l) {K : Sl → Int → World → Prop} (k : ∀ t X W', X.map (·.2) = (cutP n l).2 → OwnSS W W' t X → Ext [] W W' → K t (cutP n l).1 W') :
    VCall none Try.prog 10 #[.int .i64 n, .slice s.base s.len s.cap] W (.tuple #[.slice none 0 0, .int .i64 0]) fun (t : Sl) (e : Int) (W' : World) => K t e W' := by
  refine VCall.i (Cut_spec n s l W hs) ?_
  rintro e w' ⟨t, X, rfl, hXm, hX, e'⟩
  exact exW.i2 (t := .sl) (u := .int .i64) t _ rfl (k t X w' hXm hX e')
theorem PK.at0 {w1 W : World} {t : Sl} {X : List (Sl × List UInt8)} {n : Int} {l : List UInt8} (h : PK w1 W t X n l) {K : Addr → Prop} (k : ∀ (a : Addr) (s : Sl), Rd W a [.slice s.base s.len s.cap] → In W s (pkt n ((0 : Nat) : Int) (cnt l.length : Int) (chunk l 0)) → K a) : VIx none t.base t.len 0 K :=
  h.at (i := 0) (cnt_pos _) fun a s hr hs => k a s (by rw [Nat.zero_mul, add_zero] at hr; exact hr) hs
theorem PK.old0 {w1 W W' : World} {t : Sl} {X : List (Sl × List UInt8)} {n : Int} {l : List UInt8} (h : PK w1 W t X n l) (e : Ext [] W W') {K : Addr → Prop} (k : ∀ (a : Addr) (s : Sl), Rd W' a [.slice s.base s.len s.cap] → In W s (pkt n ((0 : Nat) : Int) (cnt l.length : Int) (chunk l 0)) → K a) : VIx none t.base t.len 0 K := by
  have hX := h.len.2
  have hi := cnt_pos l.length
  refine VIx.i' (j := 0) (r := slR) (h.ext0 e).ss.er.in_.1 (show 0 < (X.map (·.1)).length by simpa [hX] using hi) fun a hr => k a (X[0]'(by omega)).1 ?_ ?_
  · rw [List.getElem_map, Nat.zero_mul, add_zero] at hr
    exact hr
  · have := (h.ss.ea 0 (by omega)).in_
    have hg : (X[0]'(by omega)).2 = pkt n ((0 : Nat) : Int) (cnt l.length : Int) (chunk l 0) := by
      have h1 : (X.map (·.2))[0]'(by simpa [hX] using hi) = (cutL n l)[0]'(by rw [cutL_len]; exact hi) := by simp only [h.xm]
      rw [List.getElem_map, cutL_get] at h1
      exact h1
    rw [hg] at this
    exact this
set_option maxHeartbeats 1000000 in
theorem PartsNames_law (w : World) : Calls Try.prog 6 #[] w fun e w' => e = .returned (.bool true) ∧ Ext [] w w' := by
  refine sh_butterylaw11_PartsNames_ok _ _ ?_
  unfold sh_butterylaw11_PartsNames
  refine VCall.i (works_spec w) ?_
  rintro e w1 ⟨rfl, e1⟩
  refine exW.i1 (t := .bool) true rfl (VIf.f rfl ?_)
  have nilin : ∀ W : World, In W ⟨none, 0, 0⟩ [] := In.nil
  refine cut_any (-1) ⟨none, 0, 0⟩ [] (nilin w1) fun ta Xa w2 _ _ e2 => VSet.i ?_
  rw [show cutP (-1) [] = (1, []) from if_pos (.inl (by omega))]
  refine cut_any 2147483648 ⟨none, 0, 0⟩ [] (nilin w2) fun tb Xb w3 _ _ e3 => VSet.i ?_
  rw [show cutP 2147483648 [] = (1, []) from if_pos (.inr (by omega))]
  refine VMk.i (by omega) (by omega) (by omega) (by omega) fun b4 w4 hb4 hk4 e4 => ?_
  have in4 := mk_in 8193 rfl (by omega) hk4
  obtain ⟨z3, hz3⟩ : ∃ z : List UInt8, z = List.replicate 8193 0 := ⟨_, rfl⟩
  have hz3l : z3.length = 8193 := by rw [hz3, List.length_replicate]
  rw [← hz3] at in4
  refine cut_any 0 ⟨some ⟨b4, 0, none⟩, 8193, 8193⟩ z3 in4 fun tc Xc w5 _ _ e5 => VSet.i ?_
  rw [show cutP 0 z3 = (40, []) from by unfold cutP; rw [if_neg (by omega), if_pos (by omega)]]
  refine VMk.i (by omega) (by omega) (by omega) (by omega) fun b6 w6 hb6 hk6 e6 => ?_
  have in6 := mk_in 8192 rfl (by omega) hk6
  obtain ⟨z2, hz2⟩ : ∃ z : List UInt8, z = List.replicate 8192 0 := ⟨_, rfl⟩
  have hz2l : z2.length = 8192 := by rw [hz2, List.length_replicate]
  rw [← hz2] at in6
  refine cutGo in6 (by omega) (by omega) fun td Xd w7 hPd e7 => VSet.i ?_
  have htd : td.len = 22 := by rw [hPd.len.1, hz2l]; rfl
  refine cutGo (l := []) (s := ⟨none, 0, 0⟩) (nilin w7) (n := 0) (by omega) (by simp) fun te Xe w8 hPe e8 => VSet.i ?_
  have hte : te.len = 1 := by rw [hPe.len.1]; rfl
  refine newGo fun jb w9 hJ e9 => ?_
  have e08 := (((((((e1.then0 e2).then0 e3).then0 e4).then0 e5).then0 e6).then0 e7).then0 e8)
  have z8 := e08.size
  have e09 := e08.then0 e9
  refine VNw.i fun b10 w10 hb10 hk10 e10 => ?_
  have hk10 : Bk w10 b10 (bc [120]) 5 := hk10
  refine VMark.bk hk10 fun w11 hk11 e11 => ?_
  have e911 : Ext [] w9 w11 := e10.then e11 (fun i hi hlt => by simp at hi; omega)
  have hin11 : In w11 ⟨some ⟨b10, 0, none⟩, 1, 1⟩ [120] := ⟨Seg.of_bk hk11 rfl rfl, Nat.le_refl _, by simp⟩
  have hrx : (readP [120]).2 = 4 := by
    unfold readP
    rw [open_x]
    rfl
  refine (hJ.ext0 e911).take hin11 fun o1 w12 hJ12 _ x12 => VSet.i ?_
  rw [take_bad (by rw [hrx]; decide), hrx] at hJ12 ⊢
  have e012 := x12.ext (e09.then0 e911) z8
  have hP12 := ((hPe.ext0 e9).ext0 e911).je x12
  refine VIf.f (by rw [htd, hte]; rfl) ?_
  -- a message of nothing
  have hch : chunk [] 0 = [] := rfl
  have hc0 : cnt ([] : List UInt8).length = 1 := rfl
  refine hP12.at0 fun a s hr hs => VLd.s s hr ?_
  rw [hch, hc0] at hs
  have hr0 := readP_pkt 0 0 1 ByteArray.empty (by omega) (by omega) (by omega) (by decide)
  have hes0 : ByteArray.empty.size = 0 := rfl
  rw [hes0, if_pos (by decide)] at hr0
  have hr0 : readP (pkt 0 0 1 []) = (⟨0, 0, 1, ByteArray.empty⟩, 0) := hr0
  refine hJ12.take hs fun o2 w13 hJ13 ho13 x13 => VSet.i ?_
  rw [show ((0 : Nat) : Int) = 0 from rfl, show ((1 : Nat) : Int) = 1 from rfl] at hJ13 ho13 ⊢
  rw [take_one hr0 rfl] at hJ13 ho13 ⊢
  have e013 := x13.ext e012 z8
  have hP13 := hP12.je x13
  have hol : o2.len = 0 := ho13.1
  -- one with another byte
  refine VNw.i fun b14 w14 hb14 hk14 e14 => ?_
  refine hP13.old0 e14 fun a s hr hs => VLd.s s hr ?_
  rw [hch, hc0] at hs
  have hso : Seg w13 s.base s.len 1 (bc (pkt 0 0 1 [])) := hs.1
  refine VApp.clone hb14 hk14 e14 hso (by rw [pk0]; decide) fun s2 w15 h15 e15 => ?_
  have hl15 := h15.len
  have h3 : 3 < s2.len := by rw [hl15, pk0]; decide
  refine Row.put (q := 3) (v := 77) h15.1 h3 fun w16 h16 e16 => ?_
  have e1316 : Ext [] w13 w16 := e15.then e16 (fun i hi hlt => by have := h15.2 i hi; omega)
  have h16 : Own w13 w16 s2 ((pkt 0 0 1 []).set 3 77) := ⟨h16, h15.2⟩
  rw [pk0] at h16
  have hrb : (readP ((frame 1 [0, 0, 1, 0]).set 3 77)).2 = 30 := by
    unfold readP
    rw [open_bad]
    rfl
  refine (hJ13.ext0 e1316).take h16.in_ fun o3 w17 hJ17 _ x17 => VSet.i ?_
  rw [take_bad (by rw [hrb]; decide), hrb] at hJ17 ⊢
  have e017 := x17.ext (e013.then0 e1316) z8
  have hP17 := (hP13.ext0 e1316).je x17
  -- nobody's
  refine hP17.at0 fun a s hr hs => VLd.s s hr ?_
  refine VCall.i (Take_nil 1 s w17) ?_
  rintro e w18 ⟨rfl, rfl⟩
  refine exW.i3 (t := .sl) (u := .bool) (v := .int .i64) ⟨none, 0, 0⟩ false 2 rfl (VSet.i ?_)
  rw [hol]
  refine VCall.on rfl (VCall.i (Len_nil w18) ?_)
  rintro e w19 ⟨rfl, rfl⟩
  refine exW.i1 (t := .int .i64) 0 rfl (VIf.f rfl ?_)
  -- seventeen messages
  obtain ⟨z, hz⟩ : ∃ z : List UInt8, z = List.replicate 400 0 := ⟨_, rfl⟩
  have hzl : z.length = 400 := by rw [hz, List.length_replicate]
  have hcz : cnt z.length = 2 := by rw [hzl]; rfl
  have sl0 : (slT z fun j => false || j == 0) = putS (List.replicate 2 none) 0 (ba (chunk z 0)) := by
    have := slT_put z (fun _ => false) 0 (by omega)
    rw [slT_none, hcz] at this
    exact this.symm
  obtain ⟨s0, hs0⟩ : ∃ s0, s0 = putS (List.replicate 2 none) 0 (ba (chunk z 0)) := ⟨_, rfl⟩
  refine ⟨fun k i W => ∃ m : Nat, i = (m : Int) ∧ m ≤ 17 ∧ k = 17 - m ∧ JAt w8 W jb (if m ≤ 16 then Ak 0 m s0 else Ak 1 16 s0) ∧ Ext [] w W, ⟨_, 0, rfl, by omega, rfl, (by rw [if_pos (by omega)]; exact hJ17), e017⟩, ?_⟩
  rintro k i w20 ⟨m, rfl, hm, rfl, hJ20, e020⟩
  refine VIf.mk (fun hd => ?_) (fun hd => ?_)
  · have hm' : m < 17 := by simp at hd; omega
    rw [if_pos (by omega)] at hJ20
    refine VMk.i (by omega) (by omega) (by omega) (by omega) fun b21 w21 hb21 hk21 e21 => ?_
    have in21 := mk_in 400 rfl (by omega) hk21
    rw [← hz] at in21
    refine cutGo in21 (n := (m : Int)) (by omega) (by omega) fun t X w22 hP22 e22 => VSet.i ?_
    refine hP22.at0 fun a s hr hs => VLd.s s hr ?_
    have hr := read_cut (n := (m : Int)) (by omega) (by omega : z.length ≤ 8192) (i := 0) (by omega)
    rw [hcz] at hr hs
    have hfm : findA (Ak 0 m s0) (1, (m : Int)) = none := by rw [Ak_find, if_neg (by omega)]
    have hT : (takeP (Ak 0 m s0) 1 (pkt (m : Int) ((0 : Nat) : Int) ((2 : Nat) : Int) (chunk z 0))).1 = (if m + 1 ≤ 16 then Ak 0 (m + 1) s0 else Ak 1 16 s0) := by
      by_cases h16 : m < 16
      · rw [take_new hr hfm (by omega) (by omega) (by rw [Ak_len]; omega), if_pos (by omega), ← hs0]
        have := Ak_snoc 0 m s0
        rw [Nat.zero_add] at this
        exact this
      · have hm16 : m = 16 := by omega
        subst hm16
        rw [take_new16 hr hfm (by omega) (by omega) (Ak_len _ _ _), if_neg (by omega), ← hs0]
        simp only
        rw [Ak_tail 0 15 s0]
        exact Ak_snoc 1 15 s0
    refine ((hJ20.ext0 e21).ext0 e22).take hs fun o w23 hJ23 _ x23 => ?_
    rw [hT] at hJ23
    rw [w64 (n := (m : Int) + 1) (by omega)]
    exact VSet.i ⟨_, (show 17 - (m + 1) < 17 - m by omega), m + 1, rfl, by omega, rfl, hJ23, x23.ext ((e020.then0 e21).then0 e22) z8⟩
  · have hmm : m = 17 := by simp at hd; omega
    subst hmm
    rw [if_neg (by omega)] at hJ20
    refine VMk.i (by omega) (by omega) (by omega) (by omega) fun b24 w24 hb24 hk24 e24 => ?_
    have in24 := mk_in 400 rfl (by omega) hk24
    rw [← hz] at in24
    refine cutGo in24 (n := 0) (by omega) (by omega) fun tx Xx w25 hPx e25 => VSet.i ?_
    refine VMk.i (by omega) (by omega) (by omega) (by omega) fun b26 w26 hb26 hk26 e26 => ?_
    have in26 := mk_in 400 rfl (by omega) hk26
    rw [← hz] at in26
    refine cutGo in26 (n := 1) (by omega) (by omega) fun ty Xy w27 hPy e27 => VSet.i ?_
    have e2027 := ((e24.then0 e25).then0 e26).then0 e27
    have hJ27 := hJ20.ext0 e2027
    refine hPy.at (i := 1) (by omega) fun a s hr hs => VLd.s s hr ?_
    have hry := read_cut (n := 1) (by omega) (by omega : z.length ≤ 8192) (i := 1) (by omega)
    rw [hcz] at hry hs
    have hf1 : findA (Ak 1 16 s0) (1, 1) = some s0 := by
      have := Ak_find 1 16 s0 1
      rw [if_pos (by omega)] at this
      exact this
    have hls : s0.length = 2 := by rw [hs0, putS_len]; rfl
    have hfull : ¬ 0 < leftOf (putS s0 1 (ba (chunk z 1))) := by
      have := slT_put z (fun j => false || j == 0) 1 (by omega)
      rw [sl0, ← hs0] at this
      rw [this]
      intro h
      obtain ⟨i, hi, hT⟩ := (slT_some _ _).1 h
      have : i = 0 ∨ i = 1 := by omega
      rcases this with rfl | rfl <;> simp at hT
    have ty1 := take_last (A := Ak 1 16 s0) (fr := 1) hry hf1 hls (by omega) hfull
    refine hJ27.take hs fun oy w28 hJ28 _ x28 => VSet.i ?_
    rw [ty1] at hJ28 ⊢
    have hlen28 : (dropA (Ak 1 16 s0) (1, 1)).length = 15 := by
      have := dropA_len hJ27.nodup hf1
      rw [Ak_len] at this
      omega
    have hPx28 := ((hPx.ext0 e26).ext0 e27).je x28
    refine hPx28.at (i := 1) (by omega) fun a s hr hs => VLd.s s hr ?_
    have hrx2 := read_cut (n := 0) (by omega) (by omega : z.length ≤ 8192) (i := 1) (by omega)
    rw [hcz] at hrx2 hs
    have hf0 : findA (dropA (Ak 1 16 s0) (1, 1)) (1, 0) = none := by
      rw [findA_drop, if_neg (by simp)]
      have := Ak_find 1 16 s0 0
      rw [if_neg (by omega)] at this
      exact this
    have tx1 := take_new (A := dropA (Ak 1 16 s0) (1, 1)) (fr := 1) hrx2 hf0 (by omega) (by omega) (by omega)
    refine hJ28.take hs fun ox w29 hJ29 _ x29 => VSet.i ?_
    rw [tx1] at hJ29 ⊢
    refine hJ29.len (.inl rfl) ⟨?_, x29.ext (x28.ext (e020.then0 e2027) z8) z8⟩
    rw [List.length_append, hlen28]
    rfl
end Go.Proofs.Ythpbkkjggnejcaa
