/-
  Package node: two nodes joined, the program's and the document's (printed by walks/join.py).
-/
import Derived.Test.YtknohdgcigcmdaaNodeY
namespace Go.Proofs.Ytknohdgcigcmdaa
open Go.RowKit
set_option maxRecDepth 100000

def sepC (sep : ByteArray) : Ce := ⟨sep, ByteArray.empty, 0, 0⟩
def joinN (a : Nd) (sep : ByteArray) (b : Nd) : Nd := if a.leaf then ⟨true, a.cs ++ b.cs, []⟩ else ⟨false, a.cs ++ [sepC sep] ++ b.cs, a.ks ++ b.ks⟩
theorem slIn {w : World} {b n : Nat} {L : List Sl} {t : TypeId} (h : Bk w b (slR.cells L) t) (hn : L.length = n) (h2 : n ≤ 100) : InR slR w ⟨some ⟨b, 0, none⟩, n, n⟩ L := ⟨Seg.of_bk h (by simp) (by rw [Rec.cells_len, hn]), Nat.le_refl _, by simp only; omega⟩
theorem ceIn {w : World} {b n : Nat} {L : List Ce} {t : TypeId} (h : Bk w b (ceR.cells L) t) (hn : L.length = n) (h2 : n ≤ 100) : InR ceR w ⟨some ⟨b, 0, none⟩, n, n⟩ L := ⟨Seg.of_bk h (by simp) (by rw [Rec.cells_len, hn]), Nat.le_refl _, by simp only; omega⟩
theorem all2 {α : Type} {Q : α → Prop} {x y : α} (hx : Q x) (hy : Q y) : ∀ p ∈ [x, y], Q p := by
  intro p hp
  simp only [List.mem_cons, List.not_mem_nil, or_false] at hp
  rcases hp with rfl | rfl <;> assumption
theorem all3 {α : Type} {Q : α → Prop} {x y z : α} (hx : Q x) (hy : Q y) (hz : Q z) : ∀ p ∈ [x, y, z], Q p := by
  intro p hp
  simp only [List.mem_cons, List.not_mem_nil, or_false] at hp
  rcases hp with rfl | rfl | rfl <;> assumption
theorem flat2 {α : Type} (x y : Sl × List α) : [x, y].flatMap (·.2) = x.2 ++ y.2 := by simp
theorem flat3 {α : Type} (x y z : Sl × List α) : [x, y, z].flatMap (·.2) = x.2 ++ y.2 ++ z.2 := by simp
theorem OwnR.notin {α : Type} {r : Rec α} {e t : TypeId} {w0 w : World} {s : Sl} {L : List α} {b : Nat} {cs : List Value} (h : OwnR r e w0 w s L) (hk : Bk w b cs t) (hne : e ≠ t) : b ∉ rowB s := fun hi => by
  obtain ⟨_, hz⟩ := h.1.bk_of hi
  exact hz.neT hk hne rfl
theorem OwnR.notinT {α β : Type} {r : Rec α} {q : Rec β} {e t : TypeId} {w0 w1 w : World} {s s' : Sl} {L : List α} {M : List β} (h : OwnR r e w0 w s L) (h' : OwnR q t w1 w s' M) (hne : e ≠ t) : ∀ b ∈ rowB s', b ∉ rowB s := fun b hb' hi => by
  obtain ⟨_, hz⟩ := h.1.bk_of hi
  obtain ⟨_, hz'⟩ := h'.1.bk_of hb'
  exact hz.neT hz' hne rfl
theorem notin1 {l : List Nat} {b : Nat} (h : b ∉ l) : ∀ x ∈ l, x ∉ [b] := fun x hx hm => by simp at hm; subst hm; exact h hx
set_option maxHeartbeats 2000000 in
theorem Join_spec (ca ka cb kb : Sl) (a b : Nd) (sep : ByteArray) (w : World) (ha : NIn w ca ka a) (hb : NIn w cb kb b) (sa : a.cs.length ≤ 1000 ∧ a.ks.length ≤ 1000) (sb : b.cs.length ≤ 1000 ∧ b.ks.length ≤ 1000) : Calls Try.prog 15 #[.agg (nhC a.leaf ca ka).toArray, .string sep, .agg (nhC b.leaf cb kb).toArray] w fun e w' =>
      ∃ c' k' : Sl, e = .returned (.agg (nhC (joinN a sep b).leaf c' k').toArray) ∧ OwnN 48 w w' c' k' (joinN a sep b) ∧ Ext [] w w' := by
  refine sh_node_Join_ok _ _ _ _ _ _ _ _ _ ?_
  unfold sh_node_Join
  have ga := ha.ci
  have gak := ha.ki
  have gb := hb.ci
  have gbk := hb.ki
  refine VNw.i fun a_3 w1 hb1 hk1 e1 => ?_
  have hk1 : Bk w1 a_3 [.bool a.leaf, .slice ca.base ca.len ca.cap, .slice ka.base ka.len ka.cap] 30 := hk1
  have z1 := e1.size
  have l1 := hk1.lt
  refine VNw.i fun b_5 w2 hb2 hk2 e2 => ?_
  have hk2 : Bk w2 b_5 [.bool b.leaf, .slice cb.base cb.len cb.cap, .slice kb.base kb.len kb.cap] 30 := hk2
  have z2 := e2.size
  have l2 := hk2.lt
  refine VNw.i fun b6 w3 hb3 hk3 e3 => ?_
  have hk3 : Bk w3 b6 [.bool false, .slice none 0 0, .slice none 0 0] 30 := hk3
  have z3 := e3.size
  have l3 := hk3.lt
  have e1_3 := e2.then0 e3
  have ha_3_3 := hk1.ext e1_3
  refine VLd.i1 (t := CT.bool) a.leaf (Rd.of_bk ha_3_3 rfl) ?_
  refine VIf.mk (fun hc => ?_) (fun hc => ?_)
  · have hj : joinN a sep b = ⟨true, a.cs ++ b.cs, []⟩ := by unfold joinN; rw [if_pos hc]
    rw [hj]
    refine VLd.s ca (Rd.of_bk ha_3_3 rfl) ?_
    have hb_5_3 := hk2.ext e3
    refine VLd.s cb (Rd.of_bk hb_5_3 rfl) ?_
    refine VNw.i fun b13 w4 hb4 hk4 e4 => ?_
    have hk4 : Bk w4 b13 [.slice ca.base ca.len ca.cap, .slice cb.base cb.len cb.cap] 28 := hk4
    have z4 := e4.size
    have l4 := hk4.lt
    have e0_2 := e1.then0 e2
    have e0_3 := e0_2.then0 e3
    have e0_4 := e0_3.then0 e4
    have ga_4 := ga.ext0 e0_4
    have gb_4 := gb.ext0 e0_4
    refine VCall.i (ConcatC_spec ⟨some ⟨b13, 0, none⟩, 2, 2⟩ [(ca, a.cs), (cb, b.cs)] w4 (slIn (L := [ca, cb]) hk4 rfl (by omega)) (all2 ga_4 gb_4) (by rw [flat2, List.length_append]; simp only; omega) (by simp)) ?_
    rintro e w5 ⟨r14, rfl, hC, e5⟩
    have z5 := e5.size
    refine ⟨r14, rfl, ?_⟩
    rw [flat2] at hC
    have gC := hC.2
    have e3_5 := e4.then0 e5
    have hb6_5 := hk3.ext e3_5
    refine VSt.bk hb6_5 rfl (by simp) fun w6 hk6 e6 => ?_
    have hk6 : Bk w6 b6 [.bool true, .slice r14.base r14.len r14.cap, .slice none 0 0] 30 := hk6
    have z6 := e6.size
    refine ⟨true, r14, ⟨none, 0, 0⟩, gd.i (Rd.of_bk hk6 rfl), ?_⟩
    have e0_5 := e0_4.then0 e5
    have e0_6 := e0_5.then e6 (fun i hi hlt => by simp at hi; omega)
    have hC_6 := hC.ext e6 (fun b hb hm => by have := gC b hb; simp at hm; omega)
    exact ⟨r14, ⟨none, 0, 0⟩, rfl, ⟨hC_6.mono (by omega), OwnR.nil _ _ _ _⟩, e0_6⟩
  · have hj : joinN a sep b = ⟨false, a.cs ++ [sepC sep] ++ b.cs, a.ks ++ b.ks⟩ := by unfold joinN; rw [if_neg (by simp [hc])]
    rw [hj]
    refine ⟨fun W => ∃ c' k' : Sl, OwnR ceR 48 w W c' (a.cs ++ [sepC sep] ++ b.cs) ∧ OwnR itR 3 w W k' (a.ks ++ b.ks) ∧ Bk W b6 [.bool false, .slice c'.base c'.len c'.cap, .slice k'.base k'.len k'.cap] 30 ∧ Ext [] w W, ?_, ?_⟩
    · intro w7 hw7
      have e7 := Ext.drew' hw7
      have z7 := e7.size
      have ha_3_7 := ha_3_3.ext e7
      refine VLd.s ca (Rd.of_bk ha_3_7 rfl) ?_
      have e2_7 := e3.then0 e7
      have hb_5_7 := hk2.ext e2_7
      refine VLd.s cb (Rd.of_bk hb_5_7 rfl) ?_
      refine VLd.s ka (Rd.of_bk ha_3_7 rfl) ?_
      refine VLd.s kb (Rd.of_bk hb_5_7 rfl) ?_
      refine ⟨?_, ?_⟩
      · refine VNw.i fun b20 w8 hb8 hk8 e8 => ?_
        have hk8 : Bk w8 b20 [.string sep, .string ByteArray.empty, .int .i64 0, .int .i64 0] 48 := hk8
        have z8 := e8.size
        have l8 := hk8.lt
        have hb_5_8 := hb_5_7.ext e8
        refine ⟨Rd.of_bk hb_5_8 rfl, ?_⟩
        have ha_3_8 := ha_3_7.ext e8
        refine ⟨Rd.of_bk ha_3_8 rfl, ?_⟩
        refine ⟨Rd.of_bk hb_5_8 rfl, ?_⟩
        refine ⟨Rd.of_bk ha_3_8 rfl, ?_⟩
        refine ⟨?_, ?_⟩
        · refine VNw.i fun b23 w9 hb9 hk9 e9 => ?_
          have hk9 : Bk w9 b23 [.slice ca.base ca.len ca.cap, .slice (some ⟨b20, 0, none⟩) 1 1, .slice cb.base cb.len cb.cap] 28 := hk9
          have z9 := e9.size
          have l9 := hk9.lt
          have hb_5_9 := hb_5_8.ext e9
          refine ⟨Rd.of_bk hb_5_9 rfl, ?_⟩
          have ha_3_9 := ha_3_8.ext e9
          refine ⟨Rd.of_bk ha_3_9 rfl, ?_⟩
          refine ⟨?_, ?_⟩
          · have e0_2 := e1.then0 e2
            have e0_3 := e0_2.then0 e3
            have e0_7 := e0_3.then0 e7
            have e0_8 := e0_7.then0 e8
            have e0_9 := e0_8.then0 e9
            have ga_9 := ga.ext0 e0_9
            have gb_9 := gb.ext0 e0_9
            have hb20_9 := hk8.ext e9
            refine VCall.i (ConcatC_spec ⟨some ⟨b23, 0, none⟩, 3, 3⟩ [(ca, a.cs), (⟨some ⟨b20, 0, none⟩, 1, 1⟩, [sepC sep]), (cb, b.cs)] w9 (slIn (L := [ca, ⟨some ⟨b20, 0, none⟩, 1, 1⟩, cb]) hk9 rfl (by omega)) (all3 ga_9 (ceIn hb20_9 rfl (by omega)) gb_9) (by rw [flat3, List.length_append, List.length_append]; simp only [List.length_cons, List.length_nil]; omega) (by simp)) ?_
            rintro e w10 ⟨r24, rfl, hC, e10⟩
            have z10 := e10.size
            refine ⟨r24, rfl, ?_⟩
            rw [flat3] at hC
            have gC := hC.2
            have hb_5_10 := hb_5_9.ext e10
            refine ⟨Rd.of_bk hb_5_10 rfl, ?_⟩
            have ha_3_10 := ha_3_9.ext e10
            refine ⟨Rd.of_bk ha_3_10 rfl, ?_⟩
            refine VNw.i fun b29 w11 hb11 hk11 e11 => ?_
            have hk11 : Bk w11 b29 [.slice ka.base ka.len ka.cap, .slice kb.base kb.len kb.cap] 23 := hk11
            have z11 := e11.size
            have l11 := hk11.lt
            have e0_10 := e0_9.then0 e10
            have e0_11 := e0_10.then0 e11
            have gak_11 := gak.ext0 e0_11
            have gbk_11 := gbk.ext0 e0_11
            refine VCall.i (ConcatI_spec ⟨some ⟨b29, 0, none⟩, 2, 2⟩ [(ka, a.ks), (kb, b.ks)] w11 (slIn (L := [ka, kb]) hk11 rfl (by omega)) (all2 gak_11 gbk_11) (by rw [flat2, List.length_append]; simp only; omega) (by simp)) ?_
            rintro e w12 ⟨r30, rfl, hI, e12⟩
            have z12 := e12.size
            refine ⟨r30, rfl, ?_⟩
            rw [flat2] at hI
            have gI := hI.2
            have e3_8 := e7.then0 e8
            have e3_9 := e3_8.then0 e9
            have e3_10 := e3_9.then0 e10
            have e3_11 := e3_10.then0 e11
            have e3_12 := e3_11.then0 e12
            have hb6_12 := hk3.ext e3_12
            refine VSt.bk hb6_12 rfl (by simp) fun w13 hk13 e13 => ?_
            have hk13 : Bk w13 b6 [.bool false, .slice r24.base r24.len r24.cap, .slice r30.base r30.len r30.cap] 30 := hk13
            have z13 := e13.size
            have e10_12 := e11.then0 e12
            have e10_13 := e10_12.trans e13
            have hC_13 := hC.ext e10_13 (fun b hb hm => by have := gC b hb; simp at hm; omega)
            have hI_13 := hI.ext e13 (fun b hb hm => by have := gI b hb; simp at hm; omega)
            have e0_12 := e0_11.then0 e12
            have e0_13 := e0_12.then e13 (fun i hi hlt => by simp at hi; omega)
            exact ⟨r24, r30, hC_13.mono (by omega), hI_13.mono (by omega), hk13, e0_13⟩
          · refine VNw.i fun b29 w14 hb14 hk14 e14 => ?_
            have hk14 : Bk w14 b29 [.slice ka.base ka.len ka.cap, .slice kb.base kb.len kb.cap] 23 := hk14
            have z14 := e14.size
            have l14 := hk14.lt
            have hb23_14 := hk9.ext e14
            have e0_2 := e1.then0 e2
            have e0_3 := e0_2.then0 e3
            have e0_7 := e0_3.then0 e7
            have e0_8 := e0_7.then0 e8
            have e0_9 := e0_8.then0 e9
            have e0_14 := e0_9.then0 e14
            have ga_14 := ga.ext0 e0_14
            have gb_14 := gb.ext0 e0_14
            have e8_14 := e9.then0 e14
            have hb20_14 := hk8.ext e8_14
            refine VCall.i (ConcatC_spec ⟨some ⟨b23, 0, none⟩, 3, 3⟩ [(ca, a.cs), (⟨some ⟨b20, 0, none⟩, 1, 1⟩, [sepC sep]), (cb, b.cs)] w14 (slIn (L := [ca, ⟨some ⟨b20, 0, none⟩, 1, 1⟩, cb]) hb23_14 rfl (by omega)) (all3 ga_14 (ceIn hb20_14 rfl (by omega)) gb_14) (by rw [flat3, List.length_append, List.length_append]; simp only [List.length_cons, List.length_nil]; omega) (by simp)) ?_
            rintro e w15 ⟨r24, rfl, hC, e15⟩
            have z15 := e15.size
            refine ⟨r24, rfl, ?_⟩
            rw [flat3] at hC
            have gC := hC.2
            have hb29_15 := hk14.ext e15
            have e0_15 := e0_14.then0 e15
            have gak_15 := gak.ext0 e0_15
            have gbk_15 := gbk.ext0 e0_15
            refine VCall.i (ConcatI_spec ⟨some ⟨b29, 0, none⟩, 2, 2⟩ [(ka, a.ks), (kb, b.ks)] w15 (slIn (L := [ka, kb]) hb29_15 rfl (by omega)) (all2 gak_15 gbk_15) (by rw [flat2, List.length_append]; simp only; omega) (by simp)) ?_
            rintro e w16 ⟨r30, rfl, hI, e16⟩
            have z16 := e16.size
            refine ⟨r30, rfl, ?_⟩
            rw [flat2] at hI
            have gI := hI.2
            have e3_8 := e7.then0 e8
            have e3_9 := e3_8.then0 e9
            have e3_14 := e3_9.then0 e14
            have e3_15 := e3_14.then0 e15
            have e3_16 := e3_15.then0 e16
            have hb6_16 := hk3.ext e3_16
            refine VSt.bk hb6_16 rfl (by simp) fun w17 hk17 e17 => ?_
            have hk17 : Bk w17 b6 [.bool false, .slice r24.base r24.len r24.cap, .slice r30.base r30.len r30.cap] 30 := hk17
            have z17 := e17.size
            have e15_17 := e16.trans e17
            have hC_17 := hC.ext e15_17 (fun b hb hm => by have := gC b hb; simp at hm; omega)
            have hI_17 := hI.ext e17 (fun b hb hm => by have := gI b hb; simp at hm; omega)
            have e0_16 := e0_15.then0 e16
            have e0_17 := e0_16.then e17 (fun i hi hlt => by simp at hi; omega)
            exact ⟨r24, r30, hC_17.mono (by omega), hI_17.mono (by omega), hk17, e0_17⟩
        · refine VNw.i fun b29 w18 hb18 hk18 e18 => ?_
          have hk18 : Bk w18 b29 [.slice ka.base ka.len ka.cap, .slice kb.base kb.len kb.cap] 23 := hk18
          have z18 := e18.size
          have l18 := hk18.lt
          have hb_5_18 := hb_5_8.ext e18
          refine ⟨Rd.of_bk hb_5_18 rfl, ?_⟩
          have ha_3_18 := ha_3_8.ext e18
          refine ⟨Rd.of_bk ha_3_18 rfl, ?_⟩
          refine VNw.i fun b23 w19 hb19 hk19 e19 => ?_
          have hk19 : Bk w19 b23 [.slice ca.base ca.len ca.cap, .slice (some ⟨b20, 0, none⟩) 1 1, .slice cb.base cb.len cb.cap] 28 := hk19
          have z19 := e19.size
          have l19 := hk19.lt
          have e0_2 := e1.then0 e2
          have e0_3 := e0_2.then0 e3
          have e0_7 := e0_3.then0 e7
          have e0_8 := e0_7.then0 e8
          have e0_18 := e0_8.then0 e18
          have e0_19 := e0_18.then0 e19
          have ga_19 := ga.ext0 e0_19
          have gb_19 := gb.ext0 e0_19
          have e8_19 := e18.then0 e19
          have hb20_19 := hk8.ext e8_19
          refine VCall.i (ConcatC_spec ⟨some ⟨b23, 0, none⟩, 3, 3⟩ [(ca, a.cs), (⟨some ⟨b20, 0, none⟩, 1, 1⟩, [sepC sep]), (cb, b.cs)] w19 (slIn (L := [ca, ⟨some ⟨b20, 0, none⟩, 1, 1⟩, cb]) hk19 rfl (by omega)) (all3 ga_19 (ceIn hb20_19 rfl (by omega)) gb_19) (by rw [flat3, List.length_append, List.length_append]; simp only [List.length_cons, List.length_nil]; omega) (by simp)) ?_
          rintro e w20 ⟨r24, rfl, hC, e20⟩
          have z20 := e20.size
          refine ⟨r24, rfl, ?_⟩
          rw [flat3] at hC
          have gC := hC.2
          have e18_20 := e19.then0 e20
          have hb29_20 := hk18.ext e18_20
          have e0_20 := e0_19.then0 e20
          have gak_20 := gak.ext0 e0_20
          have gbk_20 := gbk.ext0 e0_20
          refine VCall.i (ConcatI_spec ⟨some ⟨b29, 0, none⟩, 2, 2⟩ [(ka, a.ks), (kb, b.ks)] w20 (slIn (L := [ka, kb]) hb29_20 rfl (by omega)) (all2 gak_20 gbk_20) (by rw [flat2, List.length_append]; simp only; omega) (by simp)) ?_
          rintro e w21 ⟨r30, rfl, hI, e21⟩
          have z21 := e21.size
          refine ⟨r30, rfl, ?_⟩
          rw [flat2] at hI
          have gI := hI.2
          have e3_8 := e7.then0 e8
          have e3_18 := e3_8.then0 e18
          have e3_19 := e3_18.then0 e19
          have e3_20 := e3_19.then0 e20
          have e3_21 := e3_20.then0 e21
          have hb6_21 := hk3.ext e3_21
          refine VSt.bk hb6_21 rfl (by simp) fun w22 hk22 e22 => ?_
          have hk22 : Bk w22 b6 [.bool false, .slice r24.base r24.len r24.cap, .slice r30.base r30.len r30.cap] 30 := hk22
          have z22 := e22.size
          have e20_22 := e21.trans e22
          have hC_22 := hC.ext e20_22 (fun b hb hm => by have := gC b hb; simp at hm; omega)
          have hI_22 := hI.ext e22 (fun b hb hm => by have := gI b hb; simp at hm; omega)
          have e0_21 := e0_20.then0 e21
          have e0_22 := e0_21.then e22 (fun i hi hlt => by simp at hi; omega)
          exact ⟨r24, r30, hC_22.mono (by omega), hI_22.mono (by omega), hk22, e0_22⟩
      · refine VNw.i fun b29 w23 hb23 hk23 e23 => ?_
        have hk23 : Bk w23 b29 [.slice ka.base ka.len ka.cap, .slice kb.base kb.len kb.cap] 23 := hk23
        have z23 := e23.size
        have l23 := hk23.lt
        have hb_5_23 := hb_5_7.ext e23
        refine ⟨Rd.of_bk hb_5_23 rfl, ?_⟩
        have ha_3_23 := ha_3_7.ext e23
        refine ⟨Rd.of_bk ha_3_23 rfl, ?_⟩
        refine VNw.i fun b20 w24 hb24 hk24 e24 => ?_
        have hk24 : Bk w24 b20 [.string sep, .string ByteArray.empty, .int .i64 0, .int .i64 0] 48 := hk24
        have z24 := e24.size
        have l24 := hk24.lt
        have hb_5_24 := hb_5_23.ext e24
        refine ⟨Rd.of_bk hb_5_24 rfl, ?_⟩
        have ha_3_24 := ha_3_23.ext e24
        refine ⟨Rd.of_bk ha_3_24 rfl, ?_⟩
        refine VNw.i fun b23 w25 hb25 hk25 e25 => ?_
        have hk25 : Bk w25 b23 [.slice ca.base ca.len ca.cap, .slice (some ⟨b20, 0, none⟩) 1 1, .slice cb.base cb.len cb.cap] 28 := hk25
        have z25 := e25.size
        have l25 := hk25.lt
        have e0_2 := e1.then0 e2
        have e0_3 := e0_2.then0 e3
        have e0_7 := e0_3.then0 e7
        have e0_23 := e0_7.then0 e23
        have e0_24 := e0_23.then0 e24
        have e0_25 := e0_24.then0 e25
        have ga_25 := ga.ext0 e0_25
        have gb_25 := gb.ext0 e0_25
        have hb20_25 := hk24.ext e25
        refine VCall.i (ConcatC_spec ⟨some ⟨b23, 0, none⟩, 3, 3⟩ [(ca, a.cs), (⟨some ⟨b20, 0, none⟩, 1, 1⟩, [sepC sep]), (cb, b.cs)] w25 (slIn (L := [ca, ⟨some ⟨b20, 0, none⟩, 1, 1⟩, cb]) hk25 rfl (by omega)) (all3 ga_25 (ceIn hb20_25 rfl (by omega)) gb_25) (by rw [flat3, List.length_append, List.length_append]; simp only [List.length_cons, List.length_nil]; omega) (by simp)) ?_
        rintro e w26 ⟨r24, rfl, hC, e26⟩
        have z26 := e26.size
        refine ⟨r24, rfl, ?_⟩
        rw [flat3] at hC
        have gC := hC.2
        have e23_25 := e24.then0 e25
        have e23_26 := e23_25.then0 e26
        have hb29_26 := hk23.ext e23_26
        have e0_26 := e0_25.then0 e26
        have gak_26 := gak.ext0 e0_26
        have gbk_26 := gbk.ext0 e0_26
        refine VCall.i (ConcatI_spec ⟨some ⟨b29, 0, none⟩, 2, 2⟩ [(ka, a.ks), (kb, b.ks)] w26 (slIn (L := [ka, kb]) hb29_26 rfl (by omega)) (all2 gak_26 gbk_26) (by rw [flat2, List.length_append]; simp only; omega) (by simp)) ?_
        rintro e w27 ⟨r30, rfl, hI, e27⟩
        have z27 := e27.size
        refine ⟨r30, rfl, ?_⟩
        rw [flat2] at hI
        have gI := hI.2
        have e3_23 := e7.then0 e23
        have e3_24 := e3_23.then0 e24
        have e3_25 := e3_24.then0 e25
        have e3_26 := e3_25.then0 e26
        have e3_27 := e3_26.then0 e27
        have hb6_27 := hk3.ext e3_27
        refine VSt.bk hb6_27 rfl (by simp) fun w28 hk28 e28 => ?_
        have hk28 : Bk w28 b6 [.bool false, .slice r24.base r24.len r24.cap, .slice r30.base r30.len r30.cap] 30 := hk28
        have z28 := e28.size
        have e26_28 := e27.trans e28
        have hC_28 := hC.ext e26_28 (fun b hb hm => by have := gC b hb; simp at hm; omega)
        have hI_28 := hI.ext e28 (fun b hb hm => by have := gI b hb; simp at hm; omega)
        have e0_27 := e0_26.then0 e27
        have e0_28 := e0_27.then e28 (fun i hi hlt => by simp at hi; omega)
        exact ⟨r24, r30, hC_28.mono (by omega), hI_28.mono (by omega), hk28, e0_28⟩
    rintro w29 ⟨c', k', hC, hI, gb6_29, e0_29⟩
    have z29 := e0_29.size
    have lgb6_29 := gb6_29.lt
    refine ⟨false, c', k', gd.i (Rd.of_bk gb6_29 rfl), ?_⟩
    exact ⟨c', k', rfl, ⟨hC, hI⟩, e0_29⟩
set_option maxHeartbeats 4000000 in
theorem xJoin_spec (ca ka cb kb : Sl) (a b : Nd) (sep : ByteArray) (w : World) (ha : NIn w ca ka a) (hb : NIn w cb kb b) (sa : a.cs.length ≤ 1000 ∧ a.ks.length ≤ 1000) (sb : b.cs.length ≤ 1000 ∧ b.ks.length ≤ 1000) : Calls Try.prog 18 #[.agg (nhC a.leaf ca ka).toArray, .string sep, .agg (nhC b.leaf cb kb).toArray] w fun e w' =>
      ∃ c' k' : Sl, e = .returned (.agg (nhC (joinN a sep b).leaf c' k').toArray) ∧ NewN w w' c' k' (joinN a sep b) ∧ Ext [] w w' := by
  refine sh_butteryref06_Join_ok _ _ _ _ _ _ _ _ _ ?_
  unfold sh_butteryref06_Join
  have ga := ha
  have gb := hb
  refine VNw.i fun a_3 w1 hb1 hk1 e1 => ?_
  have hk1 : Bk w1 a_3 [.bool a.leaf, .slice ca.base ca.len ca.cap, .slice ka.base ka.len ka.cap] 25 := hk1
  have z1 := e1.size
  have l1 := hk1.lt
  refine VNw.i fun b_5 w2 hb2 hk2 e2 => ?_
  have hk2 : Bk w2 b_5 [.bool b.leaf, .slice cb.base cb.len cb.cap, .slice kb.base kb.len kb.cap] 25 := hk2
  have z2 := e2.size
  have l2 := hk2.lt
  refine VNw.i fun b6 w3 hb3 hk3 e3 => ?_
  have hk3 : Bk w3 b6 [.bool false, .slice none 0 0, .slice none 0 0] 25 := hk3
  have z3 := e3.size
  have l3 := hk3.lt
  refine ⟨fun x_7 y_8 W => ∃ (xb yb : Nat) (cX kX cY kY : Sl), x_7 = some ⟨xb, 0, none⟩ ∧ y_8 = some ⟨yb, 0, none⟩ ∧ Bk W xb [.bool a.leaf, .slice cX.base cX.len cX.cap, .slice kX.base kX.len kX.cap] 25 ∧ Bk W yb [.bool b.leaf, .slice cY.base cY.len cY.cap, .slice kY.base kY.len kY.cap] 25 ∧ OwnN 47 w W cX kX a ∧ OwnN 47 w W cY kY b ∧ (∀ b ∈ rowB cX, b ∉ rowB cY) ∧ Bk W b6 [.bool false, .slice none 0 0, .slice none 0 0] 25 ∧ Bk W a_3 [.bool a.leaf, .slice ca.base ca.len ca.cap, .slice ka.base ka.len ka.cap] 25 ∧ Ext [] w W, ?_, ?_⟩
  · intro w4 hw4
    have e4 := Ext.drew' hw4
    have z4 := e4.size
    have e1_3 := e2.then0 e3
    have e1_4 := e1_3.then0 e4
    have ha_3_4 := hk1.ext e1_4
    refine ⟨a.leaf, ca, ka, gd.i (Rd.of_bk ha_3_4 rfl), ?_⟩
    have e2_4 := e3.then0 e4
    have hb_5_4 := hk2.ext e2_4
    refine ⟨b.leaf, cb, kb, gd.i (Rd.of_bk hb_5_4 rfl), ?_⟩
    refine ⟨?_, ?_⟩
    · have e0_2 := e1.then0 e2
      have e0_3 := e0_2.then0 e3
      have e0_4 := e0_3.then0 e4
      have ga_4 := ga.ext0 e0_4
      refine VCall.i (xTwin_spec ca ka a w4 ga_4 sa) ?_
      rintro e w5 ⟨cX, kX, rfl, hX, e5⟩
      have z5 := e5.size
      refine ⟨a.leaf, cX, kX, rfl, ?_⟩
      have gX := hX.ge
      have lX := hX.lt
      have hb_5_5 := hb_5_4.ext e5
      refine ⟨Rd.of_bk hb_5_5 rfl, ?_⟩
      refine ⟨?_, ?_⟩
      · have e0_5 := e0_4.then0 e5
        have gb_5 := gb.ext0 e0_5
        refine VCall.i (xTwin_spec cb kb b w5 gb_5 sb) ?_
        rintro e w6 ⟨cY, kY, rfl, hY, e6⟩
        have z6 := e6.size
        refine ⟨b.leaf, cY, kY, rfl, ?_⟩
        have gY := hY.ge
        have lY := hY.lt
        refine ⟨?_, ?_⟩
        · refine VNw.i fun x_7 w7 hb7 hk7 e7 => ?_
          have hk7 : Bk w7 x_7 [.bool false, .slice none 0 0, .slice none 0 0] 25 := hk7
          have z7 := e7.size
          have l7 := hk7.lt
          refine VNw.i fun y_8 w8 hb8 hk8 e8 => ?_
          have hk8 : Bk w8 y_8 [.bool false, .slice none 0 0, .slice none 0 0] 25 := hk8
          have z8 := e8.size
          have l8 := hk8.lt
          have hx_7_8 := hk7.ext e8
          refine VSt.bk hx_7_8 rfl (by simp) fun w9 hk9 e9 => ?_
          have hk9 : Bk w9 x_7 [.bool a.leaf, .slice cX.base cX.len cX.cap, .slice kX.base kX.len kX.cap] 25 := hk9
          have z9 := e9.size
          have hy_8_9 := hk8.ext e9
          refine VSt.bk hy_8_9 rfl (by simp) fun w10 hk10 e10 => ?_
          have hk10 : Bk w10 y_8 [.bool b.leaf, .slice cY.base cY.len cY.cap, .slice kY.base kY.len kY.cap] 25 := hk10
          have z10 := e10.size
          have hx_7_10 := hk9.ext e10
          have e5_7 := e6.then0 e7
          have e5_8 := e5_7.then0 e8
          have e5_9 := e5_8.then e9 (fun i hi hlt => by simp at hi; omega)
          have e5_10 := e5_9.then e10 (fun i hi hlt => by simp at hi; omega)
          have hX_10 := hX.ext0 e5_10
          have e6_8 := e7.then0 e8
          have e6_9 := e6_8.then e9 (fun i hi hlt => by simp at hi; omega)
          have e6_10 := e6_9.then e10 (fun i hi hlt => by simp at hi; omega)
          have hY_10 := hY.ext0 e6_10
          have e3_5 := e4.then0 e5
          have e3_6 := e3_5.then0 e6
          have e3_7 := e3_6.then0 e7
          have e3_8 := e3_7.then0 e8
          have e3_9 := e3_8.then e9 (fun i hi hlt => by simp at hi; omega)
          have e3_10 := e3_9.then e10 (fun i hi hlt => by simp at hi; omega)
          have hb6_10 := hk3.ext e3_10
          have e4_6 := e5.then0 e6
          have e4_7 := e4_6.then0 e7
          have e4_8 := e4_7.then0 e8
          have e4_9 := e4_8.then e9 (fun i hi hlt => by simp at hi; omega)
          have e4_10 := e4_9.then e10 (fun i hi hlt => by simp at hi; omega)
          have ha_3_10 := ha_3_4.ext e4_10
          have e0_6 := e0_5.then0 e6
          have e0_7 := e0_6.then0 e7
          have e0_8 := e0_7.then0 e8
          have e0_9 := e0_8.then e9 (fun i hi hlt => by simp at hi; omega)
          have e0_10 := e0_9.then e10 (fun i hi hlt => by simp at hi; omega)
          exact ⟨x_7, y_8, cX, kX, cY, kY, rfl, rfl, hx_7_10, hk10, hX_10.mono (by omega), hY_10.mono (by omega), (fun b hb hb' => by have q1 := gX b (List.mem_append_left _ hb); have q2 := lX b (List.mem_append_left _ hb); have q3 := gY b (List.mem_append_left _ hb'); have q4 := lY b (List.mem_append_left _ hb'); omega), hb6_10, ha_3_10, e0_10⟩
        · refine VNw.i fun y_8 w11 hb11 hk11 e11 => ?_
          have hk11 : Bk w11 y_8 [.bool false, .slice none 0 0, .slice none 0 0] 25 := hk11
          have z11 := e11.size
          have l11 := hk11.lt
          refine VNw.i fun x_7 w12 hb12 hk12 e12 => ?_
          have hk12 : Bk w12 x_7 [.bool false, .slice none 0 0, .slice none 0 0] 25 := hk12
          have z12 := e12.size
          have l12 := hk12.lt
          refine VSt.bk hk12 rfl (by simp) fun w13 hk13 e13 => ?_
          have hk13 : Bk w13 x_7 [.bool a.leaf, .slice cX.base cX.len cX.cap, .slice kX.base kX.len kX.cap] 25 := hk13
          have z13 := e13.size
          have e11_13 := e12.then e13 (fun i hi hlt => by simp at hi; omega)
          have hy_8_13 := hk11.ext e11_13
          refine VSt.bk hy_8_13 rfl (by simp) fun w14 hk14 e14 => ?_
          have hk14 : Bk w14 y_8 [.bool b.leaf, .slice cY.base cY.len cY.cap, .slice kY.base kY.len kY.cap] 25 := hk14
          have z14 := e14.size
          have hx_7_14 := hk13.ext e14
          have e5_11 := e6.then0 e11
          have e5_12 := e5_11.then0 e12
          have e5_13 := e5_12.then e13 (fun i hi hlt => by simp at hi; omega)
          have e5_14 := e5_13.then e14 (fun i hi hlt => by simp at hi; omega)
          have hX_14 := hX.ext0 e5_14
          have e6_12 := e11.then0 e12
          have e6_13 := e6_12.then e13 (fun i hi hlt => by simp at hi; omega)
          have e6_14 := e6_13.then e14 (fun i hi hlt => by simp at hi; omega)
          have hY_14 := hY.ext0 e6_14
          have e3_5 := e4.then0 e5
          have e3_6 := e3_5.then0 e6
          have e3_11 := e3_6.then0 e11
          have e3_12 := e3_11.then0 e12
          have e3_13 := e3_12.then e13 (fun i hi hlt => by simp at hi; omega)
          have e3_14 := e3_13.then e14 (fun i hi hlt => by simp at hi; omega)
          have hb6_14 := hk3.ext e3_14
          have e4_6 := e5.then0 e6
          have e4_11 := e4_6.then0 e11
          have e4_12 := e4_11.then0 e12
          have e4_13 := e4_12.then e13 (fun i hi hlt => by simp at hi; omega)
          have e4_14 := e4_13.then e14 (fun i hi hlt => by simp at hi; omega)
          have ha_3_14 := ha_3_4.ext e4_14
          have e0_6 := e0_5.then0 e6
          have e0_11 := e0_6.then0 e11
          have e0_12 := e0_11.then0 e12
          have e0_13 := e0_12.then e13 (fun i hi hlt => by simp at hi; omega)
          have e0_14 := e0_13.then e14 (fun i hi hlt => by simp at hi; omega)
          exact ⟨x_7, y_8, cX, kX, cY, kY, rfl, rfl, hx_7_14, hk14, hX_14.mono (by omega), hY_14.mono (by omega), (fun b hb hb' => by have q1 := gX b (List.mem_append_left _ hb); have q2 := lX b (List.mem_append_left _ hb); have q3 := gY b (List.mem_append_left _ hb'); have q4 := lY b (List.mem_append_left _ hb'); omega), hb6_14, ha_3_14, e0_14⟩
      · refine ⟨?_, ?_⟩
        · refine VNw.i fun x_7 w15 hb15 hk15 e15 => ?_
          have hk15 : Bk w15 x_7 [.bool false, .slice none 0 0, .slice none 0 0] 25 := hk15
          have z15 := e15.size
          have l15 := hk15.lt
          have hb_5_15 := hb_5_5.ext e15
          refine ⟨Rd.of_bk hb_5_15 rfl, ?_⟩
          refine ⟨?_, ?_⟩
          · have e0_5 := e0_4.then0 e5
            have e0_15 := e0_5.then0 e15
            have gb_15 := gb.ext0 e0_15
            refine VCall.i (xTwin_spec cb kb b w15 gb_15 sb) ?_
            rintro e w16 ⟨cY, kY, rfl, hY, e16⟩
            have z16 := e16.size
            refine ⟨b.leaf, cY, kY, rfl, ?_⟩
            have gY := hY.ge
            have lY := hY.lt
            refine VNw.i fun y_8 w17 hb17 hk17 e17 => ?_
            have hk17 : Bk w17 y_8 [.bool false, .slice none 0 0, .slice none 0 0] 25 := hk17
            have z17 := e17.size
            have l17 := hk17.lt
            have e15_17 := e16.then0 e17
            have hx_7_17 := hk15.ext e15_17
            refine VSt.bk hx_7_17 rfl (by simp) fun w18 hk18 e18 => ?_
            have hk18 : Bk w18 x_7 [.bool a.leaf, .slice cX.base cX.len cX.cap, .slice kX.base kX.len kX.cap] 25 := hk18
            have z18 := e18.size
            have hy_8_18 := hk17.ext e18
            refine VSt.bk hy_8_18 rfl (by simp) fun w19 hk19 e19 => ?_
            have hk19 : Bk w19 y_8 [.bool b.leaf, .slice cY.base cY.len cY.cap, .slice kY.base kY.len kY.cap] 25 := hk19
            have z19 := e19.size
            have hx_7_19 := hk18.ext e19
            have e5_16 := e15.then0 e16
            have e5_17 := e5_16.then0 e17
            have e5_18 := e5_17.then e18 (fun i hi hlt => by simp at hi; omega)
            have e5_19 := e5_18.then e19 (fun i hi hlt => by simp at hi; omega)
            have hX_19 := hX.ext0 e5_19
            have e16_18 := e17.trans e18
            have e16_19 := e16_18.trans e19
            have hY_19 := hY.ext e16_19 (fun b hb hm => by have := gY b hb; have := lY b hb; simp at hm; omega)
            have e3_5 := e4.then0 e5
            have e3_15 := e3_5.then0 e15
            have e3_16 := e3_15.then0 e16
            have e3_17 := e3_16.then0 e17
            have e3_18 := e3_17.then e18 (fun i hi hlt => by simp at hi; omega)
            have e3_19 := e3_18.then e19 (fun i hi hlt => by simp at hi; omega)
            have hb6_19 := hk3.ext e3_19
            have e4_15 := e5.then0 e15
            have e4_16 := e4_15.then0 e16
            have e4_17 := e4_16.then0 e17
            have e4_18 := e4_17.then e18 (fun i hi hlt => by simp at hi; omega)
            have e4_19 := e4_18.then e19 (fun i hi hlt => by simp at hi; omega)
            have ha_3_19 := ha_3_4.ext e4_19
            have e0_16 := e0_15.then0 e16
            have e0_17 := e0_16.then0 e17
            have e0_18 := e0_17.then e18 (fun i hi hlt => by simp at hi; omega)
            have e0_19 := e0_18.then e19 (fun i hi hlt => by simp at hi; omega)
            exact ⟨x_7, y_8, cX, kX, cY, kY, rfl, rfl, hx_7_19, hk19, hX_19.mono (by omega), hY_19.mono (by omega), (fun b hb hb' => by have q1 := gX b (List.mem_append_left _ hb); have q2 := lX b (List.mem_append_left _ hb); have q3 := gY b (List.mem_append_left _ hb'); have q4 := lY b (List.mem_append_left _ hb'); omega), hb6_19, ha_3_19, e0_19⟩
          · refine VNw.i fun y_8 w20 hb20 hk20 e20 => ?_
            have hk20 : Bk w20 y_8 [.bool false, .slice none 0 0, .slice none 0 0] 25 := hk20
            have z20 := e20.size
            have l20 := hk20.lt
            have hb_5_20 := hb_5_15.ext e20
            refine ⟨Rd.of_bk hb_5_20 rfl, ?_⟩
            have e0_5 := e0_4.then0 e5
            have e0_15 := e0_5.then0 e15
            have e0_20 := e0_15.then0 e20
            have gb_20 := gb.ext0 e0_20
            refine VCall.i (xTwin_spec cb kb b w20 gb_20 sb) ?_
            rintro e w21 ⟨cY, kY, rfl, hY, e21⟩
            have z21 := e21.size
            refine ⟨b.leaf, cY, kY, rfl, ?_⟩
            have gY := hY.ge
            have lY := hY.lt
            have e15_21 := e20.then0 e21
            have hx_7_21 := hk15.ext e15_21
            refine VSt.bk hx_7_21 rfl (by simp) fun w22 hk22 e22 => ?_
            have hk22 : Bk w22 x_7 [.bool a.leaf, .slice cX.base cX.len cX.cap, .slice kX.base kX.len kX.cap] 25 := hk22
            have z22 := e22.size
            have e20_22 := e21.trans e22
            have hy_8_22 := hk20.ext e20_22
            refine VSt.bk hy_8_22 rfl (by simp) fun w23 hk23 e23 => ?_
            have hk23 : Bk w23 y_8 [.bool b.leaf, .slice cY.base cY.len cY.cap, .slice kY.base kY.len kY.cap] 25 := hk23
            have z23 := e23.size
            have hx_7_23 := hk22.ext e23
            have e5_20 := e15.then0 e20
            have e5_21 := e5_20.then0 e21
            have e5_22 := e5_21.then e22 (fun i hi hlt => by simp at hi; omega)
            have e5_23 := e5_22.then e23 (fun i hi hlt => by simp at hi; omega)
            have hX_23 := hX.ext0 e5_23
            have e21_23 := e22.trans e23
            have hY_23 := hY.ext e21_23 (fun b hb hm => by have := gY b hb; have := lY b hb; simp at hm; omega)
            have e3_5 := e4.then0 e5
            have e3_15 := e3_5.then0 e15
            have e3_20 := e3_15.then0 e20
            have e3_21 := e3_20.then0 e21
            have e3_22 := e3_21.then e22 (fun i hi hlt => by simp at hi; omega)
            have e3_23 := e3_22.then e23 (fun i hi hlt => by simp at hi; omega)
            have hb6_23 := hk3.ext e3_23
            have e4_15 := e5.then0 e15
            have e4_20 := e4_15.then0 e20
            have e4_21 := e4_20.then0 e21
            have e4_22 := e4_21.then e22 (fun i hi hlt => by simp at hi; omega)
            have e4_23 := e4_22.then e23 (fun i hi hlt => by simp at hi; omega)
            have ha_3_23 := ha_3_4.ext e4_23
            have e0_21 := e0_20.then0 e21
            have e0_22 := e0_21.then e22 (fun i hi hlt => by simp at hi; omega)
            have e0_23 := e0_22.then e23 (fun i hi hlt => by simp at hi; omega)
            exact ⟨x_7, y_8, cX, kX, cY, kY, rfl, rfl, hx_7_23, hk23, hX_23.mono (by omega), hY_23.mono (by omega), (fun b hb hb' => by have q1 := gX b (List.mem_append_left _ hb); have q2 := lX b (List.mem_append_left _ hb); have q3 := gY b (List.mem_append_left _ hb'); have q4 := lY b (List.mem_append_left _ hb'); omega), hb6_23, ha_3_23, e0_23⟩
        · refine VNw.i fun y_8 w24 hb24 hk24 e24 => ?_
          have hk24 : Bk w24 y_8 [.bool false, .slice none 0 0, .slice none 0 0] 25 := hk24
          have z24 := e24.size
          have l24 := hk24.lt
          have hb_5_24 := hb_5_5.ext e24
          refine ⟨Rd.of_bk hb_5_24 rfl, ?_⟩
          refine ⟨?_, ?_⟩
          · have e0_5 := e0_4.then0 e5
            have e0_24 := e0_5.then0 e24
            have gb_24 := gb.ext0 e0_24
            refine VCall.i (xTwin_spec cb kb b w24 gb_24 sb) ?_
            rintro e w25 ⟨cY, kY, rfl, hY, e25⟩
            have z25 := e25.size
            refine ⟨b.leaf, cY, kY, rfl, ?_⟩
            have gY := hY.ge
            have lY := hY.lt
            refine VNw.i fun x_7 w26 hb26 hk26 e26 => ?_
            have hk26 : Bk w26 x_7 [.bool false, .slice none 0 0, .slice none 0 0] 25 := hk26
            have z26 := e26.size
            have l26 := hk26.lt
            refine VSt.bk hk26 rfl (by simp) fun w27 hk27 e27 => ?_
            have hk27 : Bk w27 x_7 [.bool a.leaf, .slice cX.base cX.len cX.cap, .slice kX.base kX.len kX.cap] 25 := hk27
            have z27 := e27.size
            have e24_26 := e25.then0 e26
            have e24_27 := e24_26.then e27 (fun i hi hlt => by simp at hi; omega)
            have hy_8_27 := hk24.ext e24_27
            refine VSt.bk hy_8_27 rfl (by simp) fun w28 hk28 e28 => ?_
            have hk28 : Bk w28 y_8 [.bool b.leaf, .slice cY.base cY.len cY.cap, .slice kY.base kY.len kY.cap] 25 := hk28
            have z28 := e28.size
            have hx_7_28 := hk27.ext e28
            have e5_25 := e24.then0 e25
            have e5_26 := e5_25.then0 e26
            have e5_27 := e5_26.then e27 (fun i hi hlt => by simp at hi; omega)
            have e5_28 := e5_27.then e28 (fun i hi hlt => by simp at hi; omega)
            have hX_28 := hX.ext0 e5_28
            have e25_27 := e26.then e27 (fun i hi hlt => by simp at hi; omega)
            have e25_28 := e25_27.trans e28
            have hY_28 := hY.ext e25_28 (fun b hb hm => by have := gY b hb; have := lY b hb; simp at hm; omega)
            have e3_5 := e4.then0 e5
            have e3_24 := e3_5.then0 e24
            have e3_25 := e3_24.then0 e25
            have e3_26 := e3_25.then0 e26
            have e3_27 := e3_26.then e27 (fun i hi hlt => by simp at hi; omega)
            have e3_28 := e3_27.then e28 (fun i hi hlt => by simp at hi; omega)
            have hb6_28 := hk3.ext e3_28
            have e4_24 := e5.then0 e24
            have e4_25 := e4_24.then0 e25
            have e4_26 := e4_25.then0 e26
            have e4_27 := e4_26.then e27 (fun i hi hlt => by simp at hi; omega)
            have e4_28 := e4_27.then e28 (fun i hi hlt => by simp at hi; omega)
            have ha_3_28 := ha_3_4.ext e4_28
            have e0_25 := e0_24.then0 e25
            have e0_26 := e0_25.then0 e26
            have e0_27 := e0_26.then e27 (fun i hi hlt => by simp at hi; omega)
            have e0_28 := e0_27.then e28 (fun i hi hlt => by simp at hi; omega)
            exact ⟨x_7, y_8, cX, kX, cY, kY, rfl, rfl, hx_7_28, hk28, hX_28.mono (by omega), hY_28.mono (by omega), (fun b hb hb' => by have q1 := gX b (List.mem_append_left _ hb); have q2 := lX b (List.mem_append_left _ hb); have q3 := gY b (List.mem_append_left _ hb'); have q4 := lY b (List.mem_append_left _ hb'); omega), hb6_28, ha_3_28, e0_28⟩
          · refine VNw.i fun x_7 w29 hb29 hk29 e29 => ?_
            have hk29 : Bk w29 x_7 [.bool false, .slice none 0 0, .slice none 0 0] 25 := hk29
            have z29 := e29.size
            have l29 := hk29.lt
            have hb_5_29 := hb_5_24.ext e29
            refine ⟨Rd.of_bk hb_5_29 rfl, ?_⟩
            have e0_5 := e0_4.then0 e5
            have e0_24 := e0_5.then0 e24
            have e0_29 := e0_24.then0 e29
            have gb_29 := gb.ext0 e0_29
            refine VCall.i (xTwin_spec cb kb b w29 gb_29 sb) ?_
            rintro e w30 ⟨cY, kY, rfl, hY, e30⟩
            have z30 := e30.size
            refine ⟨b.leaf, cY, kY, rfl, ?_⟩
            have gY := hY.ge
            have lY := hY.lt
            have hx_7_30 := hk29.ext e30
            refine VSt.bk hx_7_30 rfl (by simp) fun w31 hk31 e31 => ?_
            have hk31 : Bk w31 x_7 [.bool a.leaf, .slice cX.base cX.len cX.cap, .slice kX.base kX.len kX.cap] 25 := hk31
            have z31 := e31.size
            have e24_30 := e29.then0 e30
            have e24_31 := e24_30.then e31 (fun i hi hlt => by simp at hi; omega)
            have hy_8_31 := hk24.ext e24_31
            refine VSt.bk hy_8_31 rfl (by simp) fun w32 hk32 e32 => ?_
            have hk32 : Bk w32 y_8 [.bool b.leaf, .slice cY.base cY.len cY.cap, .slice kY.base kY.len kY.cap] 25 := hk32
            have z32 := e32.size
            have hx_7_32 := hk31.ext e32
            have e5_29 := e24.then0 e29
            have e5_30 := e5_29.then0 e30
            have e5_31 := e5_30.then e31 (fun i hi hlt => by simp at hi; omega)
            have e5_32 := e5_31.then e32 (fun i hi hlt => by simp at hi; omega)
            have hX_32 := hX.ext0 e5_32
            have e30_32 := e31.trans e32
            have hY_32 := hY.ext e30_32 (fun b hb hm => by have := gY b hb; have := lY b hb; simp at hm; omega)
            have e3_5 := e4.then0 e5
            have e3_24 := e3_5.then0 e24
            have e3_29 := e3_24.then0 e29
            have e3_30 := e3_29.then0 e30
            have e3_31 := e3_30.then e31 (fun i hi hlt => by simp at hi; omega)
            have e3_32 := e3_31.then e32 (fun i hi hlt => by simp at hi; omega)
            have hb6_32 := hk3.ext e3_32
            have e4_24 := e5.then0 e24
            have e4_29 := e4_24.then0 e29
            have e4_30 := e4_29.then0 e30
            have e4_31 := e4_30.then e31 (fun i hi hlt => by simp at hi; omega)
            have e4_32 := e4_31.then e32 (fun i hi hlt => by simp at hi; omega)
            have ha_3_32 := ha_3_4.ext e4_32
            have e0_30 := e0_29.then0 e30
            have e0_31 := e0_30.then e31 (fun i hi hlt => by simp at hi; omega)
            have e0_32 := e0_31.then e32 (fun i hi hlt => by simp at hi; omega)
            exact ⟨x_7, y_8, cX, kX, cY, kY, rfl, rfl, hx_7_32, hk32, hX_32.mono (by omega), hY_32.mono (by omega), (fun b hb hb' => by have q1 := gX b (List.mem_append_left _ hb); have q2 := lX b (List.mem_append_left _ hb); have q3 := gY b (List.mem_append_left _ hb'); have q4 := lY b (List.mem_append_left _ hb'); omega), hb6_32, ha_3_32, e0_32⟩
    · refine ⟨?_, ?_⟩
      · refine VNw.i fun x_7 w33 hb33 hk33 e33 => ?_
        have hk33 : Bk w33 x_7 [.bool false, .slice none 0 0, .slice none 0 0] 25 := hk33
        have z33 := e33.size
        have l33 := hk33.lt
        have hb_5_33 := hb_5_4.ext e33
        refine ⟨Rd.of_bk hb_5_33 rfl, ?_⟩
        have ha_3_33 := ha_3_4.ext e33
        refine ⟨Rd.of_bk ha_3_33 rfl, ?_⟩
        refine ⟨?_, ?_⟩
        · have e0_2 := e1.then0 e2
          have e0_3 := e0_2.then0 e3
          have e0_4 := e0_3.then0 e4
          have e0_33 := e0_4.then0 e33
          have ga_33 := ga.ext0 e0_33
          refine VCall.i (xTwin_spec ca ka a w33 ga_33 sa) ?_
          rintro e w34 ⟨cX, kX, rfl, hX, e34⟩
          have z34 := e34.size
          refine ⟨a.leaf, cX, kX, rfl, ?_⟩
          have gX := hX.ge
          have lX := hX.lt
          have hb_5_34 := hb_5_33.ext e34
          refine ⟨Rd.of_bk hb_5_34 rfl, ?_⟩
          refine ⟨?_, ?_⟩
          · have e0_34 := e0_33.then0 e34
            have gb_34 := gb.ext0 e0_34
            refine VCall.i (xTwin_spec cb kb b w34 gb_34 sb) ?_
            rintro e w35 ⟨cY, kY, rfl, hY, e35⟩
            have z35 := e35.size
            refine ⟨b.leaf, cY, kY, rfl, ?_⟩
            have gY := hY.ge
            have lY := hY.lt
            refine VNw.i fun y_8 w36 hb36 hk36 e36 => ?_
            have hk36 : Bk w36 y_8 [.bool false, .slice none 0 0, .slice none 0 0] 25 := hk36
            have z36 := e36.size
            have l36 := hk36.lt
            have e33_35 := e34.then0 e35
            have e33_36 := e33_35.then0 e36
            have hx_7_36 := hk33.ext e33_36
            refine VSt.bk hx_7_36 rfl (by simp) fun w37 hk37 e37 => ?_
            have hk37 : Bk w37 x_7 [.bool a.leaf, .slice cX.base cX.len cX.cap, .slice kX.base kX.len kX.cap] 25 := hk37
            have z37 := e37.size
            have hy_8_37 := hk36.ext e37
            refine VSt.bk hy_8_37 rfl (by simp) fun w38 hk38 e38 => ?_
            have hk38 : Bk w38 y_8 [.bool b.leaf, .slice cY.base cY.len cY.cap, .slice kY.base kY.len kY.cap] 25 := hk38
            have z38 := e38.size
            have hx_7_38 := hk37.ext e38
            have e34_36 := e35.then0 e36
            have e34_37 := e34_36.trans e37
            have e34_38 := e34_37.trans e38
            have hX_38 := hX.ext e34_38 (fun b hb hm => by have := gX b hb; have := lX b hb; simp at hm; omega)
            have e35_37 := e36.trans e37
            have e35_38 := e35_37.trans e38
            have hY_38 := hY.ext e35_38 (fun b hb hm => by have := gY b hb; have := lY b hb; simp at hm; omega)
            have e3_33 := e4.then0 e33
            have e3_34 := e3_33.then0 e34
            have e3_35 := e3_34.then0 e35
            have e3_36 := e3_35.then0 e36
            have e3_37 := e3_36.then e37 (fun i hi hlt => by simp at hi; omega)
            have e3_38 := e3_37.then e38 (fun i hi hlt => by simp at hi; omega)
            have hb6_38 := hk3.ext e3_38
            have e33_37 := e33_36.trans e37
            have e33_38 := e33_37.trans e38
            have ha_3_38 := ha_3_33.ext e33_38
            have e0_35 := e0_34.then0 e35
            have e0_36 := e0_35.then0 e36
            have e0_37 := e0_36.then e37 (fun i hi hlt => by simp at hi; omega)
            have e0_38 := e0_37.then e38 (fun i hi hlt => by simp at hi; omega)
            exact ⟨x_7, y_8, cX, kX, cY, kY, rfl, rfl, hx_7_38, hk38, hX_38.mono (by omega), hY_38.mono (by omega), (fun b hb hb' => by have q1 := gX b (List.mem_append_left _ hb); have q2 := lX b (List.mem_append_left _ hb); have q3 := gY b (List.mem_append_left _ hb'); have q4 := lY b (List.mem_append_left _ hb'); omega), hb6_38, ha_3_38, e0_38⟩
          · refine VNw.i fun y_8 w39 hb39 hk39 e39 => ?_
            have hk39 : Bk w39 y_8 [.bool false, .slice none 0 0, .slice none 0 0] 25 := hk39
            have z39 := e39.size
            have l39 := hk39.lt
            have hb_5_39 := hb_5_34.ext e39
            refine ⟨Rd.of_bk hb_5_39 rfl, ?_⟩
            have e0_34 := e0_33.then0 e34
            have e0_39 := e0_34.then0 e39
            have gb_39 := gb.ext0 e0_39
            refine VCall.i (xTwin_spec cb kb b w39 gb_39 sb) ?_
            rintro e w40 ⟨cY, kY, rfl, hY, e40⟩
            have z40 := e40.size
            refine ⟨b.leaf, cY, kY, rfl, ?_⟩
            have gY := hY.ge
            have lY := hY.lt
            have e33_39 := e34.then0 e39
            have e33_40 := e33_39.then0 e40
            have hx_7_40 := hk33.ext e33_40
            refine VSt.bk hx_7_40 rfl (by simp) fun w41 hk41 e41 => ?_
            have hk41 : Bk w41 x_7 [.bool a.leaf, .slice cX.base cX.len cX.cap, .slice kX.base kX.len kX.cap] 25 := hk41
            have z41 := e41.size
            have e39_41 := e40.trans e41
            have hy_8_41 := hk39.ext e39_41
            refine VSt.bk hy_8_41 rfl (by simp) fun w42 hk42 e42 => ?_
            have hk42 : Bk w42 y_8 [.bool b.leaf, .slice cY.base cY.len cY.cap, .slice kY.base kY.len kY.cap] 25 := hk42
            have z42 := e42.size
            have hx_7_42 := hk41.ext e42
            have e34_40 := e39.then0 e40
            have e34_41 := e34_40.trans e41
            have e34_42 := e34_41.trans e42
            have hX_42 := hX.ext e34_42 (fun b hb hm => by have := gX b hb; have := lX b hb; simp at hm; omega)
            have e40_42 := e41.trans e42
            have hY_42 := hY.ext e40_42 (fun b hb hm => by have := gY b hb; have := lY b hb; simp at hm; omega)
            have e3_33 := e4.then0 e33
            have e3_34 := e3_33.then0 e34
            have e3_39 := e3_34.then0 e39
            have e3_40 := e3_39.then0 e40
            have e3_41 := e3_40.then e41 (fun i hi hlt => by simp at hi; omega)
            have e3_42 := e3_41.then e42 (fun i hi hlt => by simp at hi; omega)
            have hb6_42 := hk3.ext e3_42
            have e33_41 := e33_40.trans e41
            have e33_42 := e33_41.trans e42
            have ha_3_42 := ha_3_33.ext e33_42
            have e0_40 := e0_39.then0 e40
            have e0_41 := e0_40.then e41 (fun i hi hlt => by simp at hi; omega)
            have e0_42 := e0_41.then e42 (fun i hi hlt => by simp at hi; omega)
            exact ⟨x_7, y_8, cX, kX, cY, kY, rfl, rfl, hx_7_42, hk42, hX_42.mono (by omega), hY_42.mono (by omega), (fun b hb hb' => by have q1 := gX b (List.mem_append_left _ hb); have q2 := lX b (List.mem_append_left _ hb); have q3 := gY b (List.mem_append_left _ hb'); have q4 := lY b (List.mem_append_left _ hb'); omega), hb6_42, ha_3_42, e0_42⟩
        · refine VNw.i fun y_8 w43 hb43 hk43 e43 => ?_
          have hk43 : Bk w43 y_8 [.bool false, .slice none 0 0, .slice none 0 0] 25 := hk43
          have z43 := e43.size
          have l43 := hk43.lt
          have hb_5_43 := hb_5_33.ext e43
          refine ⟨Rd.of_bk hb_5_43 rfl, ?_⟩
          have ha_3_43 := ha_3_33.ext e43
          refine ⟨Rd.of_bk ha_3_43 rfl, ?_⟩
          have e0_2 := e1.then0 e2
          have e0_3 := e0_2.then0 e3
          have e0_4 := e0_3.then0 e4
          have e0_33 := e0_4.then0 e33
          have e0_43 := e0_33.then0 e43
          have ga_43 := ga.ext0 e0_43
          refine VCall.i (xTwin_spec ca ka a w43 ga_43 sa) ?_
          rintro e w44 ⟨cX, kX, rfl, hX, e44⟩
          have z44 := e44.size
          refine ⟨a.leaf, cX, kX, rfl, ?_⟩
          have gX := hX.ge
          have lX := hX.lt
          have hb_5_44 := hb_5_43.ext e44
          refine ⟨Rd.of_bk hb_5_44 rfl, ?_⟩
          have e0_44 := e0_43.then0 e44
          have gb_44 := gb.ext0 e0_44
          refine VCall.i (xTwin_spec cb kb b w44 gb_44 sb) ?_
          rintro e w45 ⟨cY, kY, rfl, hY, e45⟩
          have z45 := e45.size
          refine ⟨b.leaf, cY, kY, rfl, ?_⟩
          have gY := hY.ge
          have lY := hY.lt
          have e33_44 := e43.then0 e44
          have e33_45 := e33_44.then0 e45
          have hx_7_45 := hk33.ext e33_45
          refine VSt.bk hx_7_45 rfl (by simp) fun w46 hk46 e46 => ?_
          have hk46 : Bk w46 x_7 [.bool a.leaf, .slice cX.base cX.len cX.cap, .slice kX.base kX.len kX.cap] 25 := hk46
          have z46 := e46.size
          have e43_45 := e44.then0 e45
          have e43_46 := e43_45.trans e46
          have hy_8_46 := hk43.ext e43_46
          refine VSt.bk hy_8_46 rfl (by simp) fun w47 hk47 e47 => ?_
          have hk47 : Bk w47 y_8 [.bool b.leaf, .slice cY.base cY.len cY.cap, .slice kY.base kY.len kY.cap] 25 := hk47
          have z47 := e47.size
          have hx_7_47 := hk46.ext e47
          have e44_46 := e45.trans e46
          have e44_47 := e44_46.trans e47
          have hX_47 := hX.ext e44_47 (fun b hb hm => by have := gX b hb; have := lX b hb; simp at hm; omega)
          have e45_47 := e46.trans e47
          have hY_47 := hY.ext e45_47 (fun b hb hm => by have := gY b hb; have := lY b hb; simp at hm; omega)
          have e3_33 := e4.then0 e33
          have e3_43 := e3_33.then0 e43
          have e3_44 := e3_43.then0 e44
          have e3_45 := e3_44.then0 e45
          have e3_46 := e3_45.then e46 (fun i hi hlt => by simp at hi; omega)
          have e3_47 := e3_46.then e47 (fun i hi hlt => by simp at hi; omega)
          have hb6_47 := hk3.ext e3_47
          have e43_47 := e43_46.trans e47
          have ha_3_47 := ha_3_43.ext e43_47
          have e0_45 := e0_44.then0 e45
          have e0_46 := e0_45.then e46 (fun i hi hlt => by simp at hi; omega)
          have e0_47 := e0_46.then e47 (fun i hi hlt => by simp at hi; omega)
          exact ⟨x_7, y_8, cX, kX, cY, kY, rfl, rfl, hx_7_47, hk47, hX_47.mono (by omega), hY_47.mono (by omega), (fun b hb hb' => by have q1 := gX b (List.mem_append_left _ hb); have q2 := lX b (List.mem_append_left _ hb); have q3 := gY b (List.mem_append_left _ hb'); have q4 := lY b (List.mem_append_left _ hb'); omega), hb6_47, ha_3_47, e0_47⟩
      · refine VNw.i fun y_8 w48 hb48 hk48 e48 => ?_
        have hk48 : Bk w48 y_8 [.bool false, .slice none 0 0, .slice none 0 0] 25 := hk48
        have z48 := e48.size
        have l48 := hk48.lt
        have hb_5_48 := hb_5_4.ext e48
        refine ⟨Rd.of_bk hb_5_48 rfl, ?_⟩
        have ha_3_48 := ha_3_4.ext e48
        refine ⟨Rd.of_bk ha_3_48 rfl, ?_⟩
        refine ⟨?_, ?_⟩
        · have e0_2 := e1.then0 e2
          have e0_3 := e0_2.then0 e3
          have e0_4 := e0_3.then0 e4
          have e0_48 := e0_4.then0 e48
          have ga_48 := ga.ext0 e0_48
          refine VCall.i (xTwin_spec ca ka a w48 ga_48 sa) ?_
          rintro e w49 ⟨cX, kX, rfl, hX, e49⟩
          have z49 := e49.size
          refine ⟨a.leaf, cX, kX, rfl, ?_⟩
          have gX := hX.ge
          have lX := hX.lt
          have hb_5_49 := hb_5_48.ext e49
          refine ⟨Rd.of_bk hb_5_49 rfl, ?_⟩
          refine ⟨?_, ?_⟩
          · have e0_49 := e0_48.then0 e49
            have gb_49 := gb.ext0 e0_49
            refine VCall.i (xTwin_spec cb kb b w49 gb_49 sb) ?_
            rintro e w50 ⟨cY, kY, rfl, hY, e50⟩
            have z50 := e50.size
            refine ⟨b.leaf, cY, kY, rfl, ?_⟩
            have gY := hY.ge
            have lY := hY.lt
            refine VNw.i fun x_7 w51 hb51 hk51 e51 => ?_
            have hk51 : Bk w51 x_7 [.bool false, .slice none 0 0, .slice none 0 0] 25 := hk51
            have z51 := e51.size
            have l51 := hk51.lt
            refine VSt.bk hk51 rfl (by simp) fun w52 hk52 e52 => ?_
            have hk52 : Bk w52 x_7 [.bool a.leaf, .slice cX.base cX.len cX.cap, .slice kX.base kX.len kX.cap] 25 := hk52
            have z52 := e52.size
            have e48_50 := e49.then0 e50
            have e48_51 := e48_50.then0 e51
            have e48_52 := e48_51.then e52 (fun i hi hlt => by simp at hi; omega)
            have hy_8_52 := hk48.ext e48_52
            refine VSt.bk hy_8_52 rfl (by simp) fun w53 hk53 e53 => ?_
            have hk53 : Bk w53 y_8 [.bool b.leaf, .slice cY.base cY.len cY.cap, .slice kY.base kY.len kY.cap] 25 := hk53
            have z53 := e53.size
            have hx_7_53 := hk52.ext e53
            have e49_51 := e50.then0 e51
            have e49_52 := e49_51.then e52 (fun i hi hlt => by simp at hi; omega)
            have e49_53 := e49_52.trans e53
            have hX_53 := hX.ext e49_53 (fun b hb hm => by have := gX b hb; have := lX b hb; simp at hm; omega)
            have e50_52 := e51.then e52 (fun i hi hlt => by simp at hi; omega)
            have e50_53 := e50_52.trans e53
            have hY_53 := hY.ext e50_53 (fun b hb hm => by have := gY b hb; have := lY b hb; simp at hm; omega)
            have e3_48 := e4.then0 e48
            have e3_49 := e3_48.then0 e49
            have e3_50 := e3_49.then0 e50
            have e3_51 := e3_50.then0 e51
            have e3_52 := e3_51.then e52 (fun i hi hlt => by simp at hi; omega)
            have e3_53 := e3_52.then e53 (fun i hi hlt => by simp at hi; omega)
            have hb6_53 := hk3.ext e3_53
            have e48_53 := e48_52.trans e53
            have ha_3_53 := ha_3_48.ext e48_53
            have e0_50 := e0_49.then0 e50
            have e0_51 := e0_50.then0 e51
            have e0_52 := e0_51.then e52 (fun i hi hlt => by simp at hi; omega)
            have e0_53 := e0_52.then e53 (fun i hi hlt => by simp at hi; omega)
            exact ⟨x_7, y_8, cX, kX, cY, kY, rfl, rfl, hx_7_53, hk53, hX_53.mono (by omega), hY_53.mono (by omega), (fun b hb hb' => by have q1 := gX b (List.mem_append_left _ hb); have q2 := lX b (List.mem_append_left _ hb); have q3 := gY b (List.mem_append_left _ hb'); have q4 := lY b (List.mem_append_left _ hb'); omega), hb6_53, ha_3_53, e0_53⟩
          · refine VNw.i fun x_7 w54 hb54 hk54 e54 => ?_
            have hk54 : Bk w54 x_7 [.bool false, .slice none 0 0, .slice none 0 0] 25 := hk54
            have z54 := e54.size
            have l54 := hk54.lt
            have hb_5_54 := hb_5_49.ext e54
            refine ⟨Rd.of_bk hb_5_54 rfl, ?_⟩
            have e0_49 := e0_48.then0 e49
            have e0_54 := e0_49.then0 e54
            have gb_54 := gb.ext0 e0_54
            refine VCall.i (xTwin_spec cb kb b w54 gb_54 sb) ?_
            rintro e w55 ⟨cY, kY, rfl, hY, e55⟩
            have z55 := e55.size
            refine ⟨b.leaf, cY, kY, rfl, ?_⟩
            have gY := hY.ge
            have lY := hY.lt
            have hx_7_55 := hk54.ext e55
            refine VSt.bk hx_7_55 rfl (by simp) fun w56 hk56 e56 => ?_
            have hk56 : Bk w56 x_7 [.bool a.leaf, .slice cX.base cX.len cX.cap, .slice kX.base kX.len kX.cap] 25 := hk56
            have z56 := e56.size
            have e48_54 := e49.then0 e54
            have e48_55 := e48_54.then0 e55
            have e48_56 := e48_55.then e56 (fun i hi hlt => by simp at hi; omega)
            have hy_8_56 := hk48.ext e48_56
            refine VSt.bk hy_8_56 rfl (by simp) fun w57 hk57 e57 => ?_
            have hk57 : Bk w57 y_8 [.bool b.leaf, .slice cY.base cY.len cY.cap, .slice kY.base kY.len kY.cap] 25 := hk57
            have z57 := e57.size
            have hx_7_57 := hk56.ext e57
            have e49_55 := e54.then0 e55
            have e49_56 := e49_55.then e56 (fun i hi hlt => by simp at hi; omega)
            have e49_57 := e49_56.trans e57
            have hX_57 := hX.ext e49_57 (fun b hb hm => by have := gX b hb; have := lX b hb; simp at hm; omega)
            have e55_57 := e56.trans e57
            have hY_57 := hY.ext e55_57 (fun b hb hm => by have := gY b hb; have := lY b hb; simp at hm; omega)
            have e3_48 := e4.then0 e48
            have e3_49 := e3_48.then0 e49
            have e3_54 := e3_49.then0 e54
            have e3_55 := e3_54.then0 e55
            have e3_56 := e3_55.then e56 (fun i hi hlt => by simp at hi; omega)
            have e3_57 := e3_56.then e57 (fun i hi hlt => by simp at hi; omega)
            have hb6_57 := hk3.ext e3_57
            have e48_57 := e48_56.trans e57
            have ha_3_57 := ha_3_48.ext e48_57
            have e0_55 := e0_54.then0 e55
            have e0_56 := e0_55.then e56 (fun i hi hlt => by simp at hi; omega)
            have e0_57 := e0_56.then e57 (fun i hi hlt => by simp at hi; omega)
            exact ⟨x_7, y_8, cX, kX, cY, kY, rfl, rfl, hx_7_57, hk57, hX_57.mono (by omega), hY_57.mono (by omega), (fun b hb hb' => by have q1 := gX b (List.mem_append_left _ hb); have q2 := lX b (List.mem_append_left _ hb); have q3 := gY b (List.mem_append_left _ hb'); have q4 := lY b (List.mem_append_left _ hb'); omega), hb6_57, ha_3_57, e0_57⟩
        · refine VNw.i fun x_7 w58 hb58 hk58 e58 => ?_
          have hk58 : Bk w58 x_7 [.bool false, .slice none 0 0, .slice none 0 0] 25 := hk58
          have z58 := e58.size
          have l58 := hk58.lt
          have hb_5_58 := hb_5_48.ext e58
          refine ⟨Rd.of_bk hb_5_58 rfl, ?_⟩
          have ha_3_58 := ha_3_48.ext e58
          refine ⟨Rd.of_bk ha_3_58 rfl, ?_⟩
          have e0_2 := e1.then0 e2
          have e0_3 := e0_2.then0 e3
          have e0_4 := e0_3.then0 e4
          have e0_48 := e0_4.then0 e48
          have e0_58 := e0_48.then0 e58
          have ga_58 := ga.ext0 e0_58
          refine VCall.i (xTwin_spec ca ka a w58 ga_58 sa) ?_
          rintro e w59 ⟨cX, kX, rfl, hX, e59⟩
          have z59 := e59.size
          refine ⟨a.leaf, cX, kX, rfl, ?_⟩
          have gX := hX.ge
          have lX := hX.lt
          have hb_5_59 := hb_5_58.ext e59
          refine ⟨Rd.of_bk hb_5_59 rfl, ?_⟩
          have e0_59 := e0_58.then0 e59
          have gb_59 := gb.ext0 e0_59
          refine VCall.i (xTwin_spec cb kb b w59 gb_59 sb) ?_
          rintro e w60 ⟨cY, kY, rfl, hY, e60⟩
          have z60 := e60.size
          refine ⟨b.leaf, cY, kY, rfl, ?_⟩
          have gY := hY.ge
          have lY := hY.lt
          have e58_60 := e59.then0 e60
          have hx_7_60 := hk58.ext e58_60
          refine VSt.bk hx_7_60 rfl (by simp) fun w61 hk61 e61 => ?_
          have hk61 : Bk w61 x_7 [.bool a.leaf, .slice cX.base cX.len cX.cap, .slice kX.base kX.len kX.cap] 25 := hk61
          have z61 := e61.size
          have e48_59 := e58.then0 e59
          have e48_60 := e48_59.then0 e60
          have e48_61 := e48_60.then e61 (fun i hi hlt => by simp at hi; omega)
          have hy_8_61 := hk48.ext e48_61
          refine VSt.bk hy_8_61 rfl (by simp) fun w62 hk62 e62 => ?_
          have hk62 : Bk w62 y_8 [.bool b.leaf, .slice cY.base cY.len cY.cap, .slice kY.base kY.len kY.cap] 25 := hk62
          have z62 := e62.size
          have hx_7_62 := hk61.ext e62
          have e59_61 := e60.trans e61
          have e59_62 := e59_61.trans e62
          have hX_62 := hX.ext e59_62 (fun b hb hm => by have := gX b hb; have := lX b hb; simp at hm; omega)
          have e60_62 := e61.trans e62
          have hY_62 := hY.ext e60_62 (fun b hb hm => by have := gY b hb; have := lY b hb; simp at hm; omega)
          have e3_48 := e4.then0 e48
          have e3_58 := e3_48.then0 e58
          have e3_59 := e3_58.then0 e59
          have e3_60 := e3_59.then0 e60
          have e3_61 := e3_60.then e61 (fun i hi hlt => by simp at hi; omega)
          have e3_62 := e3_61.then e62 (fun i hi hlt => by simp at hi; omega)
          have hb6_62 := hk3.ext e3_62
          have e58_61 := e58_60.trans e61
          have e58_62 := e58_61.trans e62
          have ha_3_62 := ha_3_58.ext e58_62
          have e0_60 := e0_59.then0 e60
          have e0_61 := e0_60.then e61 (fun i hi hlt => by simp at hi; omega)
          have e0_62 := e0_61.then e62 (fun i hi hlt => by simp at hi; omega)
          exact ⟨x_7, y_8, cX, kX, cY, kY, rfl, rfl, hx_7_62, hk62, hX_62.mono (by omega), hY_62.mono (by omega), (fun b hb hb' => by have q1 := gX b (List.mem_append_left _ hb); have q2 := lX b (List.mem_append_left _ hb); have q3 := gY b (List.mem_append_left _ hb'); have q4 := lY b (List.mem_append_left _ hb'); omega), hb6_62, ha_3_62, e0_62⟩
  rintro x_7 y_8 w63 ⟨xb, yb, cX, kX, cY, kY, rfl, rfl, bx, by_, hX, hY, hap, gb6_63, ga_3_63, e0_63⟩
  have z63 := e0_63.size
  have lgb6_63 := gb6_63.lt
  have lga_3_63 := ga_3_63.lt
  have hXc := hX.co
  have hXk := hX.ko
  have hYc := hY.co
  have hYk := hY.ko
  have qa := hXc.len
  have qb := hYc.len
  have qc := hXk.len
  have qd := hYk.len
  have lx := bx.lt
  have ly := by_.lt
  refine VLd.i1 (t := CT.bool) a.leaf (Rd.of_bk ga_3_63 rfl) ?_
  refine VIf.mk (fun hc => ?_) (fun hc => ?_)
  · have hj : joinN a sep b = ⟨true, a.cs ++ b.cs, []⟩ := by unfold joinN; rw [if_pos hc]
    rw [hj]
    refine onPtr.i ?_
    refine VLd.s cX (Rd.of_bk bx rfl) ?_
    refine onPtr.i ?_
    refine VLd.s cY (Rd.of_bk by_ rfl) ?_
    refine VApp.rec (r := ceR) (news := b.cs) hXc e0_63 hYc.seg qb.symm rfl (by omega) (by omega) fun l20 w64 hO e0_64 e64 hb64 => ?_
    have z64 := e64.size
    have z0_64 := e0_64.size
    have hb6_64 := gb6_63.ext e64 (OwnR.notin hXc gb6_63 (by decide))
    refine VSt.bk hb6_64 rfl (by simp) fun w65 hk65 e65 => ?_
    have hk65 : Bk w65 b6 [.bool true, .slice l20.base l20.len l20.cap, .slice none 0 0] 25 := hk65
    have z65 := e65.size
    refine ⟨true, l20, ⟨none, 0, 0⟩, gd.i (Rd.of_bk hk65 rfl), ?_⟩
    have e0_65 := e0_64.then e65 (fun i hi hlt => by simp at hi; omega)
    have hO_65 := OwnR.ext hO e65 (notin1 (OwnR.notin hO hb6_64 (by decide)))
    have hN : OwnN 47 w w65 l20 ⟨none, 0, 0⟩ ⟨true, a.cs ++ b.cs, []⟩ := ⟨hO_65, OwnR.nil _ _ _ _⟩
    exact ⟨l20, ⟨none, 0, 0⟩, rfl, hN.new, e0_65⟩
  · have hj : joinN a sep b = ⟨false, a.cs ++ [sepC sep] ++ b.cs, a.ks ++ b.ks⟩ := by unfold joinN; rw [if_neg (by simp [hc])]
    rw [hj]
    refine onPtr.i ?_
    refine VLd.s cX (Rd.of_bk bx rfl) ?_
    refine VNw.i fun b26 w66 hb66 hk66 e66 => ?_
    have hk66 : Bk w66 b26 [.string sep, .string ByteArray.empty, .int .i64 0, .int .i64 0] 47 := hk66
    have z66 := e66.size
    have l66 := hk66.lt
    have hXc_66 := hXc.ext0 e66
    have hYc_66 := hYc.ext0 e66
    have hXk_66 := hXk.ext0 e66
    have hYk_66 := hYk.ext0 e66
    have e0_66 := e0_63.then0 e66
    have hb6_66 := gb6_63.ext e66
    have hxb_66 := bx.ext e66
    have hyb_66 := by_.ext e66
    refine VApp.rec (r := ceR) (news := [sepC sep]) hXc_66 e0_66 (Seg.of_bk hk66 rfl rfl) rfl rfl (by omega) (by omega) fun l27 w67 hO1 e0_67 e67 hb67 => ?_
    have z67 := e67.size
    have z0_67 := e0_67.size
    have hb6_67 := hb6_66.ext e67 (OwnR.notin hXc_66 hb6_66 (by decide))
    have hxb_67 := hxb_66.ext e67 (OwnR.notin hXc_66 hxb_66 (by decide))
    have hyb_67 := hyb_66.ext e67 (OwnR.notin hXc_66 hyb_66 (by decide))
    have hYc2 := hYc_66.ext e67 (fun b hb hb' => hap b hb' hb)
    have hXk2 := hXk_66.ext e67 (OwnR.notinT hXc_66 hXk_66 (by decide))
    have hYk2 := hYk_66.ext e67 (OwnR.notinT hXc_66 hYk_66 (by decide))
    refine VNw.i fun n_9 w68 hb68 hk68 e68 => ?_
    have hk68 : Bk w68 n_9 [.bool false, .slice none 0 0, .slice none 0 0] 25 := hk68
    have z68 := e68.size
    have l68 := hk68.lt
    refine VSt.bk hk68 rfl (by simp) fun w69 hk69 e69 => ?_
    have hk69 : Bk w69 n_9 [.bool false, .slice l27.base l27.len l27.cap, .slice none 0 0] 25 := hk69
    have z69 := e69.size
    refine VLd.s l27 (Rd.of_bk hk69 rfl) ?_
    refine onPtr.i ?_
    have e67_69 := e68.then e69 (fun i hi hlt => by simp at hi; omega)
    have hyb_69 := hyb_67.ext e67_69
    refine VLd.s cY (Rd.of_bk hyb_69 rfl) ?_
    have hO1_69 := hO1.ext0 e67_69
    have hYc_69 := hYc2.ext0 e67_69
    have hXk_69 := hXk2.ext0 e67_69
    have hYk_69 := hYk2.ext0 e67_69
    have qe := hO1_69.len
    rw [List.length_append] at qe
    simp only [List.length_cons, List.length_nil] at qe
    have e0_68 := e0_67.then0 e68
    have e0_69 := e0_68.then e69 (fun i hi hlt => by simp at hi; omega)
    have hb6_69 := hb6_67.ext e67_69
    have hxb_69 := hxb_67.ext e67_69
    refine VApp.rec (r := ceR) (news := b.cs) hO1_69 e0_69 hYc_69.seg qb.symm rfl (by rw [List.length_append]; simp only [List.length_cons, List.length_nil]; omega) (by rw [List.length_append]; simp only [List.length_cons, List.length_nil]; omega) fun l33 w70 hO2 e0_70 e70 hb70 => ?_
    have z70 := e70.size
    have z0_70 := e0_70.size
    have hb6_70 := hb6_69.ext e70 (OwnR.notin hO1_69 hb6_69 (by decide))
    have hxb_70 := hxb_69.ext e70 (OwnR.notin hO1_69 hxb_69 (by decide))
    have hyb_70 := hyb_69.ext e70 (OwnR.notin hO1_69 hyb_69 (by decide))
    have hn_9_70 := hk69.ext e70 (OwnR.notin hO1_69 hk69 (by decide))
    have hXk3 := hXk_69.ext e70 (OwnR.notinT hO1_69 hXk_69 (by decide))
    have hYk3 := hYk_69.ext e70 (OwnR.notinT hO1_69 hYk_69 (by decide))
    refine VSt.bk hn_9_70 rfl (by simp) fun w71 hk71 e71 => ?_
    have hk71 : Bk w71 n_9 [.bool false, .slice l33.base l33.len l33.cap, .slice none 0 0] 25 := hk71
    have z71 := e71.size
    refine onPtr.i ?_
    have hxb_71 := hxb_70.ext e71
    refine VLd.s kX (Rd.of_bk hxb_71 rfl) ?_
    refine onPtr.i ?_
    have hyb_71 := hyb_70.ext e71
    refine VLd.s kY (Rd.of_bk hyb_71 rfl) ?_
    have hXk_71 := OwnR.ext hXk3 e71 (notin1 (OwnR.notin hXk3 hn_9_70 (by decide)))
    have hYk_71 := OwnR.ext hYk3 e71 (notin1 (OwnR.notin hYk3 hn_9_70 (by decide)))
    have hO2_71 := OwnR.ext hO2 e71 (notin1 (OwnR.notin hO2 hn_9_70 (by decide)))
    have e0_71 := e0_70.then e71 (fun i hi hlt => by simp at hi; omega)
    have hb6_71 := hb6_70.ext e71
    refine VApp.rec (r := itR) (news := b.ks) hXk_71 e0_71 hYk_71.seg qd.symm rfl (by omega) (by omega) fun l39 w72 hO3 e0_72 e72 hb72 => ?_
    have z72 := e72.size
    have z0_72 := e0_72.size
    have hb6_72 := hb6_71.ext e72 (OwnR.notin hXk_71 hb6_71 (by decide))
    have hn_9_72 := hk71.ext e72 (OwnR.notin hXk_71 hk71 (by decide))
    have hO4 := hO2_71.ext e72 (OwnR.notinT hXk_71 hO2_71 (by decide))
    refine VSt.bk hn_9_72 rfl (by simp) fun w73 hk73 e73 => ?_
    have hk73 : Bk w73 n_9 [.bool false, .slice l33.base l33.len l33.cap, .slice l39.base l39.len l39.cap] 25 := hk73
    have z73 := e73.size
    refine ⟨false, l33, l39, gd.i (Rd.of_bk hk73 rfl), ?_⟩
    have hb6_73 := hb6_72.ext e73
    refine VSt.bk hb6_73 rfl (by simp) fun w74 hk74 e74 => ?_
    have hk74 : Bk w74 b6 [.bool false, .slice l33.base l33.len l33.cap, .slice l39.base l39.len l39.cap] 25 := hk74
    have z74 := e74.size
    refine ⟨false, l33, l39, gd.i (Rd.of_bk hk74 rfl), ?_⟩
    have e0_73 := e0_72.then e73 (fun i hi hlt => by simp at hi; omega)
    have e0_74 := e0_73.then e74 (fun i hi hlt => by simp at hi; omega)
    have hO2_73 := OwnR.ext hO4 e73 (notin1 (OwnR.notin hO4 hn_9_72 (by decide)))
    have hO2_74 := OwnR.ext hO2_73 e74 (notin1 (OwnR.notin hO2_73 hb6_73 (by decide)))
    have hO3_73 := OwnR.ext hO3 e73 (notin1 (OwnR.notin hO3 hn_9_72 (by decide)))
    have hO3_74 := OwnR.ext hO3_73 e74 (notin1 (OwnR.notin hO3_73 hb6_73 (by decide)))
    have hN : OwnN 47 w w74 l33 l39 ⟨false, a.cs ++ [sepC sep] ++ b.cs, a.ks ++ b.ks⟩ := ⟨hO2_74, hO3_74⟩
    exact ⟨l33, l39, rfl, hN.new, e0_74⟩
end Go.Proofs.Ytknohdgcigcmdaa
