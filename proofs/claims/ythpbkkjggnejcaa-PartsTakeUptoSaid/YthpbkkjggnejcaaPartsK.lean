/-
  Package parts: a joiner, as the statements use it; packets that are read.
-/
import Derived.Test.YthpbkkjggnejcaaPartsJ
namespace Go.Proofs.Ythpbkkjggnejcaa
open Go.RowKit
set_option maxRecDepth 100000

/-! a joiner -/
def JAt (w0 W : World) (jb : Nat) (A : Ab) : Prop := ∃ K mb os F, JR w0 W jb K mb os F ∧ absE K = A
/-- only blocks of a joiner's kinds were changed, that are not older than w0 -/
def JEx (w0 W W' : World) : Prop := ∃ M, Ext M W W' ∧ ∀ i ∈ M, w0.heap.size ≤ i ∧ ∀ cs t, Bk W i cs t → t = 64 ∨ t = 69 ∨ t = 72 ∨ t = 9 ∨ t = 4
section
variable {w w0 W W' W2 : World} {jb : Nat} {A : Ab}
theorem JEx.ext (h : JEx w0 W W') (e : Ext [] w W) (hw : w.heap.size ≤ w0.heap.size) : Ext [] w W' := by
  obtain ⟨M, hM, h2⟩ := h
  exact e.then hM (fun i hi hlt => by have := (h2 i hi).1; omega)
theorem JEx.size (h : JEx w0 W W') : W.heap.size ≤ W'.heap.size := by
  obtain ⟨M, hM, _⟩ := h
  exact hM.size
theorem JEx.bk (h : JEx w0 W W') {b : Nat} {cs : List Value} {t : TypeId} (k : Bk W b cs t) (ht : ¬ (t = 64 ∨ t = 69 ∨ t = 72 ∨ t = 9 ∨ t = 4)) : Bk W' b cs t := by
  obtain ⟨M, hM, h2⟩ := h
  exact k.ext hM fun hi => ht ((h2 b hi).2 cs t k)
theorem JEx.own (h : JEx w0 W W') {w1 : World} {s : Sl} {l : List UInt8} (k : Own w1 W s l) : Own w1 W' s l := by
  obtain ⟨M, hM, h2⟩ := h
  refine ⟨k.1.ext hM fun b hb hi => ?_, k.2⟩
  obtain ⟨_, hz⟩ := k.1.bk_of hb
  exact absurd ((h2 b hi).2 _ _ hz) (by decide)
theorem JEx.ss (h : JEx w0 W W') {w1 : World} {s : Sl} {X : List (Sl × List UInt8)} (k : OwnSS w1 W s X) : OwnSS w1 W' s X := by
  refine ⟨?_, fun j hj => h.own (k.ea j hj), k.es⟩
  obtain ⟨M, hM, h2⟩ := h
  refine k.er.ext hM fun b hb hi => ?_
  obtain ⟨_, hz⟩ := k.er.1.bk_of hb
  exact absurd ((h2 b hi).2 _ _ hz) (by decide)
theorem JAt.ext0 (h : JAt w0 W jb A) (e : Ext [] W W') : JAt w0 W' jb A := by
  obtain ⟨K, mb, os, F, hJ, hA⟩ := h
  exact ⟨K, mb, os, F, hJ.ext0 e, hA⟩
theorem JAt.nodup (h : JAt w0 W jb A) : (A.map (·.1)).Nodup := by
  obtain ⟨K, mb, os, F, hJ, rfl⟩ := h
  have := hJ.nd
  unfold absE
  rw [List.map_map]
  exact this
/-- a block of another kind is written into -/
theorem JAt.oth (h : JAt w0 W jb A) {M : List Nat} (e : Ext M W W') (hm : ∀ b ∈ M, ∃ cs t, Bk W b cs t ∧ ¬ (t = 64 ∨ t = 69 ∨ t = 72 ∨ t = 9 ∨ t = 4)) : JAt w0 W' jb A := by
  obtain ⟨K, mb, os, F, hJ, hA⟩ := h
  refine ⟨K, mb, os, F, hJ.ext e fun b hb hi => ?_, hA⟩
  obtain ⟨cs, t, hk, ht⟩ := hm b hi
  exact ht (hJ.ty hb hk)
theorem New_spec (w : World) : Calls Try.prog 12 #[] w fun e w' => ∃ jb, e = .returned (.pointer (some ⟨jb, 0, none⟩)) ∧ JAt w w' jb [] ∧ Ext [] w w' := by
  refine sh_parts_New_ok _ _ ?_
  unfold sh_parts_New
  intro mb w1 h1
  have hT : TbU kyK w1 mb (fun _ => none) := TbU.new h1
  have hm : mb = w.heap.size := h1.at_
  have e1 : Ext [] w w1 := h1.ext
  refine VNw.i fun jb w2 hjb hk2 e2 => ⟨jb, rfl, ⟨[], mb, ⟨none, 0, 0⟩, _, ⟨hk2, hT.ext e2 (by simp), OwnR.nil _ _ _ _, List.nodup_nil, by simp, by simp, fun _ _ => rfl, by simp, ?_, ?_, by simp, by simp, by simp⟩, rfl⟩, e1.then0 e2⟩
  · have := e1.size; omega
  · omega
theorem Len_spec (h : JAt w0 W jb A) : Calls Try.prog 18 #[.pointer (some ⟨jb, 0, none⟩)] W fun e w' => e = .returned (.int .i64 (A.length : Int)) ∧ w' = W := by
  refine sh_parts_Joiner_Len_ok _ _ _ ?_
  unfold sh_parts_Joiner_Len
  obtain ⟨K, mb, os, F, hJ, rfl⟩ := h
  have hl := hJ.o.len
  rw [List.length_map] at hl
  have hrd := Rd.of_bk (i := 0) (vs := [.map (some mb), .slice os.base os.len os.cap]) hJ.j rfl
  refine VIf.f rfl (VNN.i (VLd.s os (hrd.fld 1 rfl) (VSet.i ⟨?_, rfl⟩)))
  rw [hl]
  unfold absE
  rw [List.length_map]
theorem JAt.take (h : JAt w0 W jb A) {fr : Int} {s : Sl} {l : List UInt8} (hs : In W s l) {K : Sl → Bool → Int → World → Prop}
    (k : ∀ t W', JAt w0 W' jb (takeP A fr l).1 → OutR W W' t (takeP A fr l).2.1 → JEx w0 W W' → K t (takeP A fr l).2.2.1 (takeP A fr l).2.2.2 W') :
    VCall none Try.prog 13 #[.pointer (some ⟨jb, 0, none⟩), .int .i64 fr, .slice s.base s.len s.cap] W (.tuple #[.slice none 0 0, .bool false, .int .i64 0]) fun (t : Sl) (o : Bool) (e : Int) (W' : World) => K t o e W' := by
  obtain ⟨K0, mb, os, F, hJ, rfl⟩ := h
  refine VCall.i (Take_spec fr s l hJ hs) ?_
  rintro e w' ⟨t, K', rfl, hA, ho, os', F', hJ', e', hin⟩
  refine exW.i3 (t := .sl) (u := .bool) (v := .int .i64) t _ _ rfl (k t w' ⟨K', mb, os', F', hJ', hA⟩ ho ⟨_, e', fun i hi => ⟨(hJ.old i hi).1, fun cs t hk => hJ.ty hi hk⟩⟩)
theorem JAt.len (h : JAt w0 W jb A) {g : Option Bool} (hg : g = none ∨ g = some true) {K : Int → World → Prop} (k : K (A.length : Int) W) : VCall g Try.prog 18 #[.pointer (some ⟨jb, 0, none⟩)] W (.int .i64 0) fun (n : Int) (W' : World) => K n W' := by
  have main : VCall none Try.prog 18 #[.pointer (some ⟨jb, 0, none⟩)] W (.int .i64 0) fun (n : Int) (W' : World) => K n W' := by
    refine VCall.i (Len_spec h) ?_
    rintro e w' ⟨rfl, rfl⟩
    exact exW.i1 (t := .int .i64) _ rfl k
  rcases hg with rfl | rfl
  · exact main
  · exact VCall.on rfl main
end

/-! packets, read -/
theorem rd_pkt (n p c : Int) (x : ByteArray) (hn : 0 ≤ n ∧ n ≤ 2147483647) (hp : 0 ≤ p ∧ p ≤ 2147483647) (hc : 0 ≤ c ∧ c ≤ 2147483647) (hx : x.size ≤ 8000) :
    rawP (some (bodyP n p c x.data.toList)) = if p ≤ 21 ∧ c ≤ 22 ∧ x.size ≤ 380 then (⟨n, p, c, x⟩, some []) else (rawP (some (bodyP n p c x.data.toList))).1 |> fun q => (q, none) := by
  have hb : bodyP n p c x.data.toList = encC n ++ (encC p ++ (encC c ++ (encS x ++ []))) := by
    rw [encS_encB (by omega)]
    unfold bodyP
    simp
  rw [hb]
  have h1 := rCount_enc 2147483647 n hn.1 hn.2 hn.2 (encC p ++ (encC c ++ (encS x ++ [])))
  have h2 := rCount_enc 2147483647 p hp.1 hp.2 hp.2 (encC c ++ (encS x ++ []))
  have h3 := rCount_enc 2147483647 c hc.1 hc.2 hc.2 (encS x ++ [])
  have h4 := rStr_enc 8000 x (by omega) (by omega) []
  have l2 := rCount_lim (m1 := 21) (m2 := 2147483647) (by omega) (by omega) (some (encC p ++ (encC c ++ (encS x ++ []))))
  have l3 := rCount_lim (m1 := 22) (m2 := 2147483647) (by omega) (by omega) (some (encC c ++ (encS x ++ [])))
  have l4 := rStr_lim (m1 := 380) (m2 := 8000) (by omega) (by omega) (some (encS x ++ []))
  rw [h2] at l2
  rw [h3] at l3
  rw [h4] at l4
  have n2 : rCount 22 none = (0, none) := rfl
  have n3 : rStr 380 none = (⟨#[]⟩, none) := rfl
  unfold rawP
  rw [h1]
  simp only
  rw [l2]
  by_cases c2 : p ≤ 21
  · rw [if_pos c2]
    simp only
    rw [l3]
    by_cases c3 : c ≤ 22
    · rw [if_pos c3]
      simp only
      rw [l4]
      by_cases c4 : ((x.size : Nat) : Int) ≤ 380
      · simp only
        rw [if_pos c4, if_pos ⟨c2, c3, by omega⟩]
      · simp only
        rw [if_neg c4, if_neg (by omega)]
    · rw [if_neg c3]
      simp only [n3]
      rw [if_neg (by omega)]
  · rw [if_neg c2]
    simp only [n2, n3]
    rw [if_neg (by omega)]
def validP (p c : Int) (n : Nat) : Prop := p ≤ 21 ∧ c ≤ 22 ∧ n ≤ 380 ∧ p < c ∧ ¬ badP p c n
instance (p c : Int) (n : Nat) : Decidable (validP p c n) := by unfold validP; infer_instance
/-- what a packet of a part is read as -/
theorem readP_pkt (n p c : Int) (x : ByteArray) (hn : 0 ≤ n ∧ n ≤ 2147483647) (hp : 0 ≤ p ∧ p ≤ 2147483647) (hc : 0 ≤ c ∧ c ≤ 2147483647) (hx : x.size ≤ 8000) :
    readP (pkt n p c x.data.toList) = if validP p c x.size then (⟨n, p, c, x⟩, 0) else (zPT, 4) := by
  have hl : x.data.toList.length = x.size := Array.length_toList
  have hb := bodyP_len n p c (d := x.data.toList) (by omega)
  have ho : openF (pkt n p c x.data.toList) = (1, bodyP n p c x.data.toList, 0) := open_frame 1 _ (by omega)
  have hr := rd_pkt n p c x hn hp hc hx
  unfold readP
  rw [ho]
  simp only [ne_eq, not_true_eq_false, if_false]
  by_cases h1 : p ≤ 21 ∧ c ≤ 22 ∧ x.size ≤ 380
  · rw [if_pos h1] at hr
    rw [hr]
    simp only [rDone, Bool.true_eq_false, false_or]
    by_cases h2 : c ≤ p
    · rw [if_pos h2, if_neg]
      unfold validP; omega
    · rw [if_neg h2]
      by_cases h3 : badP p c x.size
      · rw [if_pos h3, if_neg]
        unfold validP; simp [h3]
      · rw [if_neg h3, if_pos]
        exact ⟨h1.1, h1.2.1, h1.2.2, by omega, h3⟩
  · rw [if_neg h1] at hr
    have hd : rDone (rawP (some (bodyP n p c x.data.toList))).2 = false := by rw [hr]; rfl
    rw [if_pos (.inr (.inl hd)), if_neg]
    unfold validP; omega
end Go.Proofs.Ythpbkkjggnejcaa
