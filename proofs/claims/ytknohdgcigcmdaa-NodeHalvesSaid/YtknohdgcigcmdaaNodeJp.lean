/-
  Package node: two nodes joined, the program's and the document's (printed by walks/join.py).
-/
import Derived.Test.YtknohdgcigcmdaaNodeX
import Derived.Test.YtknohdgcigcmdaaNodeF
namespace Go.Proofs.Ytknohdgcigcmdaa
open Go.RowKit
set_option maxRecDepth 100000

def sepC (sep : ByteArray) : Ce := ⟨sep, ByteArray.empty, 0, 0⟩
def joinN (a : Nd) (sep : ByteArray) (b : Nd) : Nd := if a.leaf then ⟨true, a.cs ++ b.cs, []⟩ else ⟨false, a.cs ++ [sepC sep] ++ b.cs, a.ks ++ b.ks⟩
theorem slIn {w : World} {b n : Nat} {L : List Sl} {t : TypeId} (h : Bk w b (slR.cells L) t) (hn : L.length = n) (h2 : n ≤ 100) : InR slR w ⟨some ⟨b, 0, none⟩, n, n⟩ L := ⟨Seg.of_bk h (by simp) (by rw [Rec.cells_len, hn]), Nat.le_refl _, by simp only; omega⟩
theorem ceIn {w : World} {b n : Nat} {L : List Ce} {t : TypeId} (h : Bk w b (ceR.cells L) t) (hn : L.length = n) (h2 : n ≤ 100) : InR ceR w ⟨some ⟨b, 0, none⟩, n, n⟩ L := ⟨Seg.of_bk h (by simp) (by rw [Rec.cells_len, hn]), Nat.le_refl _, by simp only; omega⟩
theorem all2 {α : Type} {Q : α → Prop} {x y : α} (hx : Q x) (hy : Q y) : ∀ p ∈ [x, y], Q p := by
  intro p hp
  simp only [List.mem_cons, List.not_mem_nil, or_false] at hp
  rcases hp with rfl | rfl <;> assumption
theorem all3 {α : Type} {Q : α → Prop} {x y z : α} (hx : Q x) (hy : Q y) (hz : Q z) : ∀ p ∈ [x, y, z], Q p := by
  intro p hp
  simp only [List.mem_cons, List.not_mem_nil, or_false] at hp
  rcases hp with rfl | rfl | rfl <;> assumption
theorem flat2 {α : Type} (x y : Sl × List α) : [x, y].flatMap (·.2) = x.2 ++ y.2 := by simp
theorem flat3 {α : Type} (x y z : Sl × List α) : [x, y, z].flatMap (·.2) = x.2 ++ y.2 ++ z.2 := by simp
theorem OwnR.notin {α : Type} {r : Rec α} {e t : TypeId} {w0 w : World} {s : Sl} {L : List α} {b : Nat} {cs : List Value} (h : OwnR r e w0 w s L) (hk : Bk w b cs t) (hne : e ≠ t) : b ∉ rowB s := fun hi => by
  obtain ⟨_, hz⟩ := h.1.bk_of hi
  exact hz.neT hk hne rfl
theorem OwnR.notinT {α β : Type} {r : Rec α} {q : Rec β} {e t : TypeId} {w0 w1 w : World} {s s' : Sl} {L : List α} {M : List β} (h : OwnR r e w0 w s L) (h' : OwnR q t w1 w s' M) (hne : e ≠ t) : ∀ b ∈ rowB s', b ∉ rowB s := fun b hb' hi => by
  obtain ⟨_, hz⟩ := h.1.bk_of hi
  obtain ⟨_, hz'⟩ := h'.1.bk_of hb'
  exact hz.neT hz' hne rfl
theorem notin1 {l : List Nat} {b : Nat} (h : b ∉ l) : ∀ x ∈ l, x ∉ [b] := fun x hx hm => by simp at hm; subst hm; exact h hx
set_option maxHeartbeats 2000000 in
theorem Join_spec (ca ka cb kb : Sl) (a b : Nd) (sep : ByteArray) (w : World) (ha : NIn w ca ka a) (hb : NIn w cb kb b) (sa : a.cs.length ≤ 1000 ∧ a.ks.length ≤ 1000) (sb : b.cs.length ≤ 1000 ∧ b.ks.length ≤ 1000) : Calls Try.prog 15 #[.agg (nhC a.leaf ca ka).toArray, .string sep, .agg (nhC b.leaf cb kb).toArray] w fun e w' =>
      ∃ c' k' : Sl, e = .returned (.agg (nhC (joinN a sep b).leaf c' k').toArray) ∧ OwnN 48 w w' c' k' (joinN a sep b) ∧ Ext [] w w' := by
  refine sh_node_Join_ok _ _ _ _ _ _ _ _ _ ?_
  unfold sh_node_Join
  have ga := ha.ci
  have gak := ha.ki
  have gb := hb.ci
  have gbk := hb.ki
  refine VNw.i fun a_3 w1 hb1 hk1 e1 => ?_
  have hk1 : Bk w1 a_3 [.bool a.leaf, .slice ca.base ca.len ca.cap, .slice ka.base ka.len ka.cap] 30 := hk1
  have z1 := e1.size
  have l1 := hk1.lt
  refine VNw.i fun b_5 w2 hb2 hk2 e2 => ?_
  have hk2 : Bk w2 b_5 [.bool b.leaf, .slice cb.base cb.len cb.cap, .slice kb.base kb.len kb.cap] 30 := hk2
  have z2 := e2.size
  have l2 := hk2.lt
  refine VNw.i fun b6 w3 hb3 hk3 e3 => ?_
  have hk3 : Bk w3 b6 [.bool false, .slice none 0 0, .slice none 0 0] 30 := hk3
  have z3 := e3.size
  have l3 := hk3.lt
  have e1_3 := e2.then0 e3
  have ha_3_3 := hk1.ext e1_3
  refine VLd.i1 (t := CT.bool) a.leaf (Rd.of_bk ha_3_3 rfl) ?_
  refine VIf.mk (fun hc => ?_) (fun hc => ?_)
  · have hj : joinN a sep b = ⟨true, a.cs ++ b.cs, []⟩ := by unfold joinN; rw [if_pos hc]
    rw [hj]
    refine VLd.s ca (Rd.of_bk ha_3_3 rfl) ?_
    have hb_5_3 := hk2.ext e3
    refine VLd.s cb (Rd.of_bk hb_5_3 rfl) ?_
    refine VNw.i fun b13 w4 hb4 hk4 e4 => ?_
    have hk4 : Bk w4 b13 [.slice ca.base ca.len ca.cap, .slice cb.base cb.len cb.cap] 28 := hk4
    have z4 := e4.size
    have l4 := hk4.lt
    have e0_2 := e1.then0 e2
    have e0_3 := e0_2.then0 e3
    have e0_4 := e0_3.then0 e4
    have ga_4 := ga.ext0 e0_4
    have gb_4 := gb.ext0 e0_4
    refine VCall.i (ConcatC_spec ⟨some ⟨b13, 0, none⟩, 2, 2⟩ [(ca, a.cs), (cb, b.cs)] w4 (slIn (L := [ca, cb]) hk4 rfl (by omega)) (all2 ga_4 gb_4) (by rw [flat2, List.length_append]; simp only; omega) (by simp)) ?_
    rintro e w5 ⟨r14, rfl, hC, e5⟩
    have z5 := e5.size
    refine ⟨r14, rfl, ?_⟩
    rw [flat2] at hC
    have gC := hC.2
    have e3_5 := e4.then0 e5
    have hb6_5 := hk3.ext e3_5
    refine VSt.bk hb6_5 rfl (by simp) fun w6 hk6 e6 => ?_
    have hk6 : Bk w6 b6 [.bool true, .slice r14.base r14.len r14.cap, .slice none 0 0] 30 := hk6
    have z6 := e6.size
    refine ⟨true, r14, ⟨none, 0, 0⟩, gd.i (Rd.of_bk hk6 rfl), ?_⟩
    have e0_5 := e0_4.then0 e5
    have e0_6 := e0_5.then e6 (fun i hi hlt => by simp at hi; omega)
    have hC_6 := hC.ext e6 (fun b hb hm => by have := gC b hb; simp at hm; omega)
    exact ⟨r14, ⟨none, 0, 0⟩, rfl, ⟨hC_6.mono (by omega), OwnR.nil _ _ _ _⟩, e0_6⟩
  · have hj : joinN a sep b = ⟨false, a.cs ++ [sepC sep] ++ b.cs, a.ks ++ b.ks⟩ := by unfold joinN; rw [if_neg (by simp [hc])]
    rw [hj]
    refine ⟨fun W => ∃ c' k' : Sl, OwnR ceR 48 w W c' (a.cs ++ [sepC sep] ++ b.cs) ∧ OwnR itR 3 w W k' (a.ks ++ b.ks) ∧ Bk W b6 [.bool false, .slice c'.base c'.len c'.cap, .slice k'.base k'.len k'.cap] 30 ∧ Ext [] w W, ?_, ?_⟩
    · intro w7 hw7
      have e7 := Ext.drew' hw7
      have z7 := e7.size
      have ha_3_7 := ha_3_3.ext e7
      refine VLd.s ca (Rd.of_bk ha_3_7 rfl) ?_
      have e2_7 := e3.then0 e7
      have hb_5_7 := hk2.ext e2_7
      refine VLd.s cb (Rd.of_bk hb_5_7 rfl) ?_
      refine VLd.s ka (Rd.of_bk ha_3_7 rfl) ?_
      refine VLd.s kb (Rd.of_bk hb_5_7 rfl) ?_
      refine ⟨?_, ?_⟩
      · refine VNw.i fun b20 w8 hb8 hk8 e8 => ?_
        have hk8 : Bk w8 b20 [.string sep, .string ByteArray.empty, .int .i64 0, .int .i64 0] 48 := hk8
        have z8 := e8.size
        have l8 := hk8.lt
        have hb_5_8 := hb_5_7.ext e8
        refine ⟨Rd.of_bk hb_5_8 rfl, ?_⟩
        have ha_3_8 := ha_3_7.ext e8
        refine ⟨Rd.of_bk ha_3_8 rfl, ?_⟩
        refine ⟨Rd.of_bk hb_5_8 rfl, ?_⟩
        refine ⟨Rd.of_bk ha_3_8 rfl, ?_⟩
        refine ⟨?_, ?_⟩
        · refine VNw.i fun b23 w9 hb9 hk9 e9 => ?_
          have hk9 : Bk w9 b23 [.slice ca.base ca.len ca.cap, .slice (some ⟨b20, 0, none⟩) 1 1, .slice cb.base cb.len cb.cap] 28 := hk9
          have z9 := e9.size
          have l9 := hk9.lt
          have hb_5_9 := hb_5_8.ext e9
          refine ⟨Rd.of_bk hb_5_9 rfl, ?_⟩
          have ha_3_9 := ha_3_8.ext e9
          refine ⟨Rd.of_bk ha_3_9 rfl, ?_⟩
          refine ⟨?_, ?_⟩
          · have e0_2 := e1.then0 e2
            have e0_3 := e0_2.then0 e3
            have e0_7 := e0_3.then0 e7
            have e0_8 := e0_7.then0 e8
            have e0_9 := e0_8.then0 e9
            have ga_9 := ga.ext0 e0_9
            have gb_9 := gb.ext0 e0_9
            have hb20_9 := hk8.ext e9
            refine VCall.i (ConcatC_spec ⟨some ⟨b23, 0, none⟩, 3, 3⟩ [(ca, a.cs), (⟨some ⟨b20, 0, none⟩, 1, 1⟩, [sepC sep]), (cb, b.cs)] w9 (slIn (L := [ca, ⟨some ⟨b20, 0, none⟩, 1, 1⟩, cb]) hk9 rfl (by omega)) (all3 ga_9 (ceIn hb20_9 rfl (by omega)) gb_9) (by rw [flat3, List.length_append, List.length_append]; simp only [List.length_cons, List.length_nil]; omega) (by simp)) ?_
            rintro e w10 ⟨r24, rfl, hC, e10⟩
            have z10 := e10.size
            refine ⟨r24, rfl, ?_⟩
            rw [flat3] at hC
            have gC := hC.2
            have hb_5_10 := hb_5_9.ext e10
            refine ⟨Rd.of_bk hb_5_10 rfl, ?_⟩
            have ha_3_10 := ha_3_9.ext e10
            refine ⟨Rd.of_bk ha_3_10 rfl, ?_⟩
            refine VNw.i fun b29 w11 hb11 hk11 e11 => ?_
            have hk11 : Bk w11 b29 [.slice ka.base ka.len ka.cap, .slice kb.base kb.len kb.cap] 23 := hk11
            have z11 := e11.size
            have l11 := hk11.lt
            have e0_10 := e0_9.then0 e10
            have e0_11 := e0_10.then0 e11
            have gak_11 := gak.ext0 e0_11
            have gbk_11 := gbk.ext0 e0_11
            refine VCall.i (ConcatI_spec ⟨some ⟨b29, 0, none⟩, 2, 2⟩ [(ka, a.ks), (kb, b.ks)] w11 (slIn (L := [ka, kb]) hk11 rfl (by omega)) (all2 gak_11 gbk_11) (by rw [flat2, List.length_append]; simp only; omega) (by simp)) ?_
            rintro e w12 ⟨r30, rfl, hI, e12⟩
            have z12 := e12.size
            refine ⟨r30, rfl, ?_⟩
            rw [flat2] at hI
            have gI := hI.2
            have e3_8 := e7.then0 e8
            have e3_9 := e3_8.then0 e9
            have e3_10 := e3_9.then0 e10
            have e3_11 := e3_10.then0 e11
            have e3_12 := e3_11.then0 e12
            have hb6_12 := hk3.ext e3_12
            refine VSt.bk hb6_12 rfl (by simp) fun w13 hk13 e13 => ?_
            have hk13 : Bk w13 b6 [.bool false, .slice r24.base r24.len r24.cap, .slice r30.base r30.len r30.cap] 30 := hk13
            have z13 := e13.size
            have e10_12 := e11.then0 e12
            have e10_13 := e10_12.trans e13
            have hC_13 := hC.ext e10_13 (fun b hb hm => by have := gC b hb; simp at hm; omega)
            have hI_13 := hI.ext e13 (fun b hb hm => by have := gI b hb; simp at hm; omega)
            have e0_12 := e0_11.then0 e12
            have e0_13 := e0_12.then e13 (fun i hi hlt => by simp at hi; omega)
            exact ⟨r24, r30, hC_13.mono (by omega), hI_13.mono (by omega), hk13, e0_13⟩
          · refine VNw.i fun b29 w14 hb14 hk14 e14 => ?_
            have hk14 : Bk w14 b29 [.slice ka.base ka.len ka.cap, .slice kb.base kb.len kb.cap] 23 := hk14
            have z14 := e14.size
            have l14 := hk14.lt
            have hb23_14 := hk9.ext e14
            have e0_2 := e1.then0 e2
            have e0_3 := e0_2.then0 e3
            have e0_7 := e0_3.then0 e7
            have e0_8 := e0_7.then0 e8
            have e0_9 := e0_8.then0 e9
            have e0_14 := e0_9.then0 e14
            have ga_14 := ga.ext0 e0_14
            have gb_14 := gb.ext0 e0_14
            have e8_14 := e9.then0 e14
            have hb20_14 := hk8.ext e8_14
            refine VCall.i (ConcatC_spec ⟨some ⟨b23, 0, none⟩, 3, 3⟩ [(ca, a.cs), (⟨some ⟨b20, 0, none⟩, 1, 1⟩, [sepC sep]), (cb, b.cs)] w14 (slIn (L := [ca, ⟨some ⟨b20, 0, none⟩, 1, 1⟩, cb]) hb23_14 rfl (by omega)) (all3 ga_14 (ceIn hb20_14 rfl (by omega)) gb_14) (by rw [flat3, List.length_append, List.length_append]; simp only [List.length_cons, List.length_nil]; omega) (by simp)) ?_
            rintro e w15 ⟨r24, rfl, hC, e15⟩
            have z15 := e15.size
            refine ⟨r24, rfl, ?_⟩
            rw [flat3] at hC
            have gC := hC.2
            have hb29_15 := hk14.ext e15
            have e0_15 := e0_14.then0 e15
            have gak_15 := gak.ext0 e0_15
            have gbk_15 := gbk.ext0 e0_15
            refine VCall.i (ConcatI_spec ⟨some ⟨b29, 0, none⟩, 2, 2⟩ [(ka, a.ks), (kb, b.ks)] w15 (slIn (L := [ka, kb]) hb29_15 rfl (by omega)) (all2 gak_15 gbk_15) (by rw [flat2, List.length_append]; simp only; omega) (by simp)) ?_
            rintro e w16 ⟨r30, rfl, hI, e16⟩
            have z16 := e16.size
            refine ⟨r30, rfl, ?_⟩
            rw [flat2] at hI
            have gI := hI.2
            have e3_8 := e7.then0 e8
            have e3_9 := e3_8.then0 e9
            have e3_14 := e3_9.then0 e14
            have e3_15 := e3_14.then0 e15
            have e3_16 := e3_15.then0 e16
            have hb6_16 := hk3.ext e3_16
            refine VSt.bk hb6_16 rfl (by simp) fun w17 hk17 e17 => ?_
            have hk17 : Bk w17 b6 [.bool false, .slice r24.base r24.len r24.cap, .slice r30.base r30.len r30.cap] 30 := hk17
            have z17 := e17.size
            have e15_17 := e16.trans e17
            have hC_17 := hC.ext e15_17 (fun b hb hm => by have := gC b hb; simp at hm; omega)
            have hI_17 := hI.ext e17 (fun b hb hm => by have := gI b hb; simp at hm; omega)
            have e0_16 := e0_15.then0 e16
            have e0_17 := e0_16.then e17 (fun i hi hlt => by simp at hi; omega)
            exact ⟨r24, r30, hC_17.mono (by omega), hI_17.mono (by omega), hk17, e0_17⟩
        · refine VNw.i fun b29 w18 hb18 hk18 e18 => ?_
          have hk18 : Bk w18 b29 [.slice ka.base ka.len ka.cap, .slice kb.base kb.len kb.cap] 23 := hk18
          have z18 := e18.size
          have l18 := hk18.lt
          have hb_5_18 := hb_5_8.ext e18
          refine ⟨Rd.of_bk hb_5_18 rfl, ?_⟩
          have ha_3_18 := ha_3_8.ext e18
          refine ⟨Rd.of_bk ha_3_18 rfl, ?_⟩
          refine VNw.i fun b23 w19 hb19 hk19 e19 => ?_
          have hk19 : Bk w19 b23 [.slice ca.base ca.len ca.cap, .slice (some ⟨b20, 0, none⟩) 1 1, .slice cb.base cb.len cb.cap] 28 := hk19
          have z19 := e19.size
          have l19 := hk19.lt
          have e0_2 := e1.then0 e2
          have e0_3 := e0_2.then0 e3
          have e0_7 := e0_3.then0 e7
          have e0_8 := e0_7.then0 e8
          have e0_18 := e0_8.then0 e18
          have e0_19 := e0_18.then0 e19
          have ga_19 := ga.ext0 e0_19
          have gb_19 := gb.ext0 e0_19
          have e8_19 := e18.then0 e19
          have hb20_19 := hk8.ext e8_19
          refine VCall.i (ConcatC_spec ⟨some ⟨b23, 0, none⟩, 3, 3⟩ [(ca, a.cs), (⟨some ⟨b20, 0, none⟩, 1, 1⟩, [sepC sep]), (cb, b.cs)] w19 (slIn (L := [ca, ⟨some ⟨b20, 0, none⟩, 1, 1⟩, cb]) hk19 rfl (by omega)) (all3 ga_19 (ceIn hb20_19 rfl (by omega)) gb_19) (by rw [flat3, List.length_append, List.length_append]; simp only [List.length_cons, List.length_nil]; omega) (by simp)) ?_
          rintro e w20 ⟨r24, rfl, hC, e20⟩
          have z20 := e20.size
          refine ⟨r24, rfl, ?_⟩
          rw [flat3] at hC
          have gC := hC.2
          have e18_20 := e19.then0 e20
          have hb29_20 := hk18.ext e18_20
          have e0_20 := e0_19.then0 e20
          have gak_20 := gak.ext0 e0_20
          have gbk_20 := gbk.ext0 e0_20
          refine VCall.i (ConcatI_spec ⟨some ⟨b29, 0, none⟩, 2, 2⟩ [(ka, a.ks), (kb, b.ks)] w20 (slIn (L := [ka, kb]) hb29_20 rfl (by omega)) (all2 gak_20 gbk_20) (by rw [flat2, List.length_append]; simp only; omega) (by simp)) ?_
          rintro e w21 ⟨r30, rfl, hI, e21⟩
          have z21 := e21.size
          refine ⟨r30, rfl, ?_⟩
          rw [flat2] at hI
          have gI := hI.2
          have e3_8 := e7.then0 e8
          have e3_18 := e3_8.then0 e18
          have e3_19 := e3_18.then0 e19
          have e3_20 := e3_19.then0 e20
          have e3_21 := e3_20.then0 e21
          have hb6_21 := hk3.ext e3_21
          refine VSt.bk hb6_21 rfl (by simp) fun w22 hk22 e22 => ?_
          have hk22 : Bk w22 b6 [.bool false, .slice r24.base r24.len r24.cap, .slice r30.base r30.len r30.cap] 30 := hk22
          have z22 := e22.size
          have e20_22 := e21.trans e22
          have hC_22 := hC.ext e20_22 (fun b hb hm => by have := gC b hb; simp at hm; omega)
          have hI_22 := hI.ext e22 (fun b hb hm => by have := gI b hb; simp at hm; omega)
          have e0_21 := e0_20.then0 e21
          have e0_22 := e0_21.then e22 (fun i hi hlt => by simp at hi; omega)
          exact ⟨r24, r30, hC_22.mono (by omega), hI_22.mono (by omega), hk22, e0_22⟩
      · refine VNw.i fun b29 w23 hb23 hk23 e23 => ?_
        have hk23 : Bk w23 b29 [.slice ka.base ka.len ka.cap, .slice kb.base kb.len kb.cap] 23 := hk23
        have z23 := e23.size
        have l23 := hk23.lt
        have hb_5_23 := hb_5_7.ext e23
        refine ⟨Rd.of_bk hb_5_23 rfl, ?_⟩
        have ha_3_23 := ha_3_7.ext e23
        refine ⟨Rd.of_bk ha_3_23 rfl, ?_⟩
        refine VNw.i fun b20 w24 hb24 hk24 e24 => ?_
        have hk24 : Bk w24 b20 [.string sep, .string ByteArray.empty, .int .i64 0, .int .i64 0] 48 := hk24
        have z24 := e24.size
        have l24 := hk24.lt
        have hb_5_24 := hb_5_23.ext e24
        refine ⟨Rd.of_bk hb_5_24 rfl, ?_⟩
        have ha_3_24 := ha_3_23.ext e24
        refine ⟨Rd.of_bk ha_3_24 rfl, ?_⟩
        refine VNw.i fun b23 w25 hb25 hk25 e25 => ?_
        have hk25 : Bk w25 b23 [.slice ca.base ca.len ca.cap, .slice (some ⟨b20, 0, none⟩) 1 1, .slice cb.base cb.len cb.cap] 28 := hk25
        have z25 := e25.size
        have l25 := hk25.lt
        have e0_2 := e1.then0 e2
        have e0_3 := e0_2.then0 e3
        have e0_7 := e0_3.then0 e7
        have e0_23 := e0_7.then0 e23
        have e0_24 := e0_23.then0 e24
        have e0_25 := e0_24.then0 e25
        have ga_25 := ga.ext0 e0_25
        have gb_25 := gb.ext0 e0_25
        have hb20_25 := hk24.ext e25
        refine VCall.i (ConcatC_spec ⟨some ⟨b23, 0, none⟩, 3, 3⟩ [(ca, a.cs), (⟨some ⟨b20, 0, none⟩, 1, 1⟩, [sepC sep]), (cb, b.cs)] w25 (slIn (L := [ca, ⟨some ⟨b20, 0, none⟩, 1, 1⟩, cb]) hk25 rfl (by omega)) (all3 ga_25 (ceIn hb20_25 rfl (by omega)) gb_25) (by rw [flat3, List.length_append, List.length_append]; simp only [List.length_cons, List.length_nil]; omega) (by simp)) ?_
        rintro e w26 ⟨r24, rfl, hC, e26⟩
        have z26 := e26.size
        refine ⟨r24, rfl, ?_⟩
        rw [flat3] at hC
        have gC := hC.2
        have e23_25 := e24.then0 e25
        have e23_26 := e23_25.then0 e26
        have hb29_26 := hk23.ext e23_26
        have e0_26 := e0_25.then0 e26
        have gak_26 := gak.ext0 e0_26
        have gbk_26 := gbk.ext0 e0_26
        refine VCall.i (ConcatI_spec ⟨some ⟨b29, 0, none⟩, 2, 2⟩ [(ka, a.ks), (kb, b.ks)] w26 (slIn (L := [ka, kb]) hb29_26 rfl (by omega)) (all2 gak_26 gbk_26) (by rw [flat2, List.length_append]; simp only; omega) (by simp)) ?_
        rintro e w27 ⟨r30, rfl, hI, e27⟩
        have z27 := e27.size
        refine ⟨r30, rfl, ?_⟩
        rw [flat2] at hI
        have gI := hI.2
        have e3_23 := e7.then0 e23
        have e3_24 := e3_23.then0 e24
        have e3_25 := e3_24.then0 e25
        have e3_26 := e3_25.then0 e26
        have e3_27 := e3_26.then0 e27
        have hb6_27 := hk3.ext e3_27
        refine VSt.bk hb6_27 rfl (by simp) fun w28 hk28 e28 => ?_
        have hk28 : Bk w28 b6 [.bool false, .slice r24.base r24.len r24.cap, .slice r30.base r30.len r30.cap] 30 := hk28
        have z28 := e28.size
        have e26_28 := e27.trans e28
        have hC_28 := hC.ext e26_28 (fun b hb hm => by have := gC b hb; simp at hm; omega)
        have hI_28 := hI.ext e28 (fun b hb hm => by have := gI b hb; simp at hm; omega)
        have e0_27 := e0_26.then0 e27
        have e0_28 := e0_27.then e28 (fun i hi hlt => by simp at hi; omega)
        exact ⟨r24, r30, hC_28.mono (by omega), hI_28.mono (by omega), hk28, e0_28⟩
    rintro w29 ⟨c', k', hC, hI, gb6_29, e0_29⟩
    have z29 := e0_29.size
    have lgb6_29 := gb6_29.lt
    refine ⟨false, c', k', gd.i (Rd.of_bk gb6_29 rfl), ?_⟩
    exact ⟨c', k', rfl, ⟨hC, hI⟩, e0_29⟩
end Go.Proofs.Ytknohdgcigcmdaa
