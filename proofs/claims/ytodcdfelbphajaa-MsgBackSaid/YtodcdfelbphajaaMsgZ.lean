/-
  Package msg: an argument that is a message, read.
-/
import Derived.Test.YtodcdfelbphajaaEngY
import Derived.Test.YtodcdfelbphajaaMsgE
namespace Go.Proofs.Ytodcdfelbphajaa
open Go.ChangeShapes Go.WideShapes Go.ChangeAt Go.RowKit Go.WideElems Go.Deep
set_option maxRecDepth 100000

/-- what Go's types say of a message's fields -/
structure SCok (c : SC) : Prop where
  g0 : (0 ≤ c.f0 ∧ c.f0 ≤ 255)
  g1 : (-9223372036854775808 ≤ c.f1 ∧ c.f1 ≤ 9223372036854775807)
  g2 : (-9223372036854775808 ≤ c.f2 ∧ c.f2 ≤ 9223372036854775807)
  g3 : (-9223372036854775808 ≤ c.f3 ∧ c.f3 ≤ 9223372036854775807)
  g4 : (-9223372036854775808 ≤ c.f4 ∧ c.f4 ≤ 9223372036854775807)
  g5 : (-9223372036854775808 ≤ c.f5 ∧ c.f5 ≤ 9223372036854775807)
  g6 : (-9223372036854775808 ≤ c.f6 ∧ c.f6 ≤ 9223372036854775807)
  g7 : (0 ≤ c.f7 ∧ c.f7 ≤ 255)
  g8 : c.f8.size ≤ 9223372036854775807
  g9 : c.f9.size ≤ 9223372036854775807
  g10 : c.f10.size ≤ 9223372036854775807
  g12 : (-9223372036854775808 ≤ c.f12 ∧ c.f12 ≤ 9223372036854775807)
  g13 : (0 ≤ c.f13 ∧ c.f13 ≤ 255)
  g15 : c.f15.size ≤ 9223372036854775807
  g16 : (-9223372036854775808 ≤ c.f16 ∧ c.f16 ≤ 9223372036854775807)
  g17 : (-9223372036854775808 ≤ c.f17 ∧ c.f17 ≤ 9223372036854775807)
  g18 : (-9223372036854775808 ≤ c.f18 ∧ c.f18 ≤ 9223372036854775807)
  g19 : (-9223372036854775808 ≤ c.f19 ∧ c.f19 ≤ 9223372036854775807)
  g20 : (-9223372036854775808 ≤ c.f20 ∧ c.f20 ≤ 9223372036854775807)
  g24 : c.f24.size ≤ 9223372036854775807
  g25 : (-9223372036854775808 ≤ c.f25 ∧ c.f25 ≤ 9223372036854775807)
  g29 : (0 ≤ c.f29 ∧ c.f29 ≤ 255)
  g30 : (-9223372036854775808 ≤ c.f30 ∧ c.f30 ≤ 9223372036854775807)
  g31 : (-9223372036854775808 ≤ c.f31 ∧ c.f31 ≤ 9223372036854775807)
  g32 : (-9223372036854775808 ≤ c.f32 ∧ c.f32 ≤ 9223372036854775807)
def EnOk (x : En) : Prop := ((-9223372036854775808 ≤ x.1 ∧ x.1 ≤ 9223372036854775807) ∧ (0 ≤ x.2.1 ∧ x.2.1 ≤ 255)) ∧ (x.2.2.1.size ≤ 9223372036854775807 ∧ ∀ n ∈ x.2.2.2, -9223372036854775808 ≤ n ∧ n ≤ 9223372036854775807)
def LsOk (x : Ls) : Prop := (((-9223372036854775808 ≤ x.1 ∧ x.1 ≤ 9223372036854775807) ∧ (-9223372036854775808 ≤ x.2.1 ∧ x.2.1 ≤ 9223372036854775807)) ∧ (0 ≤ x.2.2.1 ∧ x.2.2.1 ≤ 255)) ∧ x.2.2.2.2.size ≤ 9223372036854775807
structure MOk (p : MP) : Prop where
  c : SCok p.c
  e : ∀ x ∈ p.E, EnOk x
  l : ∀ n ∈ p.L, -9223372036854775808 ≤ n ∧ n ≤ 9223372036854775807
  pp : ∀ x ∈ p.P, x.1.size ≤ 9223372036854775807 ∧ x.2.size ≤ 9223372036854775807
  qq : ∀ x ∈ p.Q, LsOk x
/-- texts that are not too long for the machine -/
structure FitS (p : MP) : Prop where
  s8 : p.c.f8.size ≤ 1048576
  s9 : p.c.f9.size ≤ 1048576
  s10 : p.c.f10.size ≤ 1048576
  s15 : p.c.f15.size ≤ 1048576
  s24 : p.c.f24.size ≤ 1048576
  e : ∀ x ∈ p.E, x.2.2.1.size ≤ 1048576
  pp : ∀ x ∈ p.P, x.1.size ≤ 1048576 ∧ x.2.size ≤ 1048576
  qq : ∀ x ∈ p.Q, x.2.2.2.2.size ≤ 1048576
instance : Inhabited Sl := ⟨⟨none, 0, 0⟩⟩
theorem mva_eq (m : MV) : Value.agg (mvF m).toArray = mva m := rfl
theorem sumTo_at (f : Nat → Nat) : ∀ (n i : Nat), i < n → f i ≤ sumTo f n
  | 0, i, h => by omega
  | n + 1, i, h => by
    show f i ≤ sumTo f n + f n
    by_cases hi : i = n
    · subst hi; omega
    · have := sumTo_at f n i (by omega); omega
theorem HoldL.inv {w : World} {s : Sp} {ss : List Sp} {vs : List Value} {B : Nat} (h : HoldL w (s :: ss) vs B) : ∃ v rest B1 B2, vs = v :: rest ∧ HoldV w s v B1 ∧ HoldL w ss rest B2 ∧ B1 + B2 ≤ B := by
  simpa only [HoldL] using h
theorem HoldL.inv0 {w : World} {vs : List Value} {B : Nat} (h : HoldL w [] vs B) : vs = [] := by simpa only [HoldL] using h
theorem hold_ints {w : World} {a : Option Addr} {len : Nat} {bud : Nat → Nat} (r : ∀ i, i < len → ∃ a0 ys, a = some a0 ∧ ys.length = [(.int .i64 : Sp)].length ∧ Rd w (a0.add (i * [(.int .i64 : Sp)].length)) ys ∧ HoldL w [.int .i64] ys (bud i)) :
    ∃ L : List Int, L.length = len ∧ (∀ n ∈ L, -9223372036854775808 ≤ n ∧ n ≤ 9223372036854775807) ∧ Seg w a len intR.k (intR.cells L) := by
  refine seg_recs intR (P := fun n => -9223372036854775808 ≤ n ∧ n ≤ 9223372036854775807) fun i hi => ?_
  obtain ⟨q0, ys, hq0, hl, hrd, hh⟩ := r i hi
  simp only [HoldL, HoldV] at hh
  obtain ⟨_, _, _, _, rfl, ⟨n, rfl, hn⟩, rfl, _⟩ := hh
  exact ⟨n, hn, q0, hq0, hrd⟩
def msgShape : List Sp := (.int .u8 : Sp) :: (.int .i64 : Sp) :: (.int .i64 : Sp) :: (.int .i64 : Sp) :: (.int .i64 : Sp) :: (.int .i64 : Sp) :: (.int .i64 : Sp) :: (.int .u8 : Sp) :: (.str : Sp) :: (.str : Sp) :: (.str : Sp) :: (.bool : Sp) :: (.int .i64 : Sp) :: (.int .u8 : Sp) :: (.bool : Sp) :: (.str : Sp) :: (.int .i64 : Sp) :: (.int .i64 : Sp) :: (.int .i64 : Sp) :: (.int .i64 : Sp) :: (.int .i64 : Sp) :: (.bool : Sp) :: (.sl [.int .i64, .int .u8, .str, .sl [.int .i64]] : Sp) :: (.sl [.int .i64] : Sp) :: (.str : Sp) :: (.int .i64 : Sp) :: (.bool : Sp) :: (.sl [.str, .str] : Sp) :: (.sl [.int .i64, .int .i64, .int .u8, .bool, .str] : Sp) :: (.int .u8 : Sp) :: (.int .i64 : Sp) :: (.int .i64 : Sp) :: (.int .i64 : Sp) :: []
theorem hold_msg {w : World} {cs : List Value} {B : Nat} (H0 : HoldL w msgShape cs B) :
    ∃ (m : MV) (p : MP) (X : List EX), cs = mvF m ∧ MIn w m p X ∧ MOk p ∧ (B ≤ 1048576 → Fit p ∧ FitS p) := by

  obtain ⟨v0, r0, B0, C0, rfl, hv0, H1, k0⟩ := HoldL.inv H0
  simp only [HoldV] at hv0
  obtain ⟨x0, rfl, w0⟩ := hv0
  obtain ⟨v1, r1, B1, C1, rfl, hv1, H2, k1⟩ := HoldL.inv H1
  simp only [HoldV] at hv1
  obtain ⟨x1, rfl, w1⟩ := hv1
  obtain ⟨v2, r2, B2, C2, rfl, hv2, H3, k2⟩ := HoldL.inv H2
  simp only [HoldV] at hv2
  obtain ⟨x2, rfl, w2⟩ := hv2
  obtain ⟨v3, r3, B3, C3, rfl, hv3, H4, k3⟩ := HoldL.inv H3
  simp only [HoldV] at hv3
  obtain ⟨x3, rfl, w3⟩ := hv3
  obtain ⟨v4, r4, B4, C4, rfl, hv4, H5, k4⟩ := HoldL.inv H4
  simp only [HoldV] at hv4
  obtain ⟨x4, rfl, w4⟩ := hv4
  obtain ⟨v5, r5, B5, C5, rfl, hv5, H6, k5⟩ := HoldL.inv H5
  simp only [HoldV] at hv5
  obtain ⟨x5, rfl, w5⟩ := hv5
  obtain ⟨v6, r6, B6, C6, rfl, hv6, H7, k6⟩ := HoldL.inv H6
  simp only [HoldV] at hv6
  obtain ⟨x6, rfl, w6⟩ := hv6
  obtain ⟨v7, r7, B7, C7, rfl, hv7, H8, k7⟩ := HoldL.inv H7
  simp only [HoldV] at hv7
  obtain ⟨x7, rfl, w7⟩ := hv7
  obtain ⟨v8, r8, B8, C8, rfl, hv8, H9, k8⟩ := HoldL.inv H8
  simp only [HoldV] at hv8
  obtain ⟨x8, rfl, w8⟩ := hv8
  obtain ⟨v9, r9, B9, C9, rfl, hv9, H10, k9⟩ := HoldL.inv H9
  simp only [HoldV] at hv9
  obtain ⟨x9, rfl, w9⟩ := hv9
  obtain ⟨v10, r10, B10, C10, rfl, hv10, H11, k10⟩ := HoldL.inv H10
  simp only [HoldV] at hv10
  obtain ⟨x10, rfl, w10⟩ := hv10
  obtain ⟨v11, r11, B11, C11, rfl, hv11, H12, k11⟩ := HoldL.inv H11
  simp only [HoldV] at hv11
  obtain ⟨x11, rfl⟩ := hv11
  obtain ⟨v12, r12, B12, C12, rfl, hv12, H13, k12⟩ := HoldL.inv H12
  simp only [HoldV] at hv12
  obtain ⟨x12, rfl, w12⟩ := hv12
  obtain ⟨v13, r13, B13, C13, rfl, hv13, H14, k13⟩ := HoldL.inv H13
  simp only [HoldV] at hv13
  obtain ⟨x13, rfl, w13⟩ := hv13
  obtain ⟨v14, r14, B14, C14, rfl, hv14, H15, k14⟩ := HoldL.inv H14
  simp only [HoldV] at hv14
  obtain ⟨x14, rfl⟩ := hv14
  obtain ⟨v15, r15, B15, C15, rfl, hv15, H16, k15⟩ := HoldL.inv H15
  simp only [HoldV] at hv15
  obtain ⟨x15, rfl, w15⟩ := hv15
  obtain ⟨v16, r16, B16, C16, rfl, hv16, H17, k16⟩ := HoldL.inv H16
  simp only [HoldV] at hv16
  obtain ⟨x16, rfl, w16⟩ := hv16
  obtain ⟨v17, r17, B17, C17, rfl, hv17, H18, k17⟩ := HoldL.inv H17
  simp only [HoldV] at hv17
  obtain ⟨x17, rfl, w17⟩ := hv17
  obtain ⟨v18, r18, B18, C18, rfl, hv18, H19, k18⟩ := HoldL.inv H18
  simp only [HoldV] at hv18
  obtain ⟨x18, rfl, w18⟩ := hv18
  obtain ⟨v19, r19, B19, C19, rfl, hv19, H20, k19⟩ := HoldL.inv H19
  simp only [HoldV] at hv19
  obtain ⟨x19, rfl, w19⟩ := hv19
  obtain ⟨v20, r20, B20, C20, rfl, hv20, H21, k20⟩ := HoldL.inv H20
  simp only [HoldV] at hv20
  obtain ⟨x20, rfl, w20⟩ := hv20
  obtain ⟨v21, r21, B21, C21, rfl, hv21, H22, k21⟩ := HoldL.inv H21
  simp only [HoldV] at hv21
  obtain ⟨x21, rfl⟩ := hv21
  obtain ⟨v22, r22, B22, C22, rfl, hv22, H23, k22⟩ := HoldL.inv H22
  simp only [HoldV] at hv22
  obtain ⟨x22a, x22n, x22c, x22b, rfl, x22l, x22m, x22z, ⟨x22g, x22h⟩, x22r⟩ := hv22
  obtain ⟨v23, r23, B23, C23, rfl, hv23, H24, k23⟩ := HoldL.inv H23
  simp only [HoldV] at hv23
  obtain ⟨x23a, x23n, x23c, x23b, rfl, x23l, x23m, x23z, ⟨x23g, x23h⟩, x23r⟩ := hv23
  obtain ⟨v24, r24, B24, C24, rfl, hv24, H25, k24⟩ := HoldL.inv H24
  simp only [HoldV] at hv24
  obtain ⟨x24, rfl, w24⟩ := hv24
  obtain ⟨v25, r25, B25, C25, rfl, hv25, H26, k25⟩ := HoldL.inv H25
  simp only [HoldV] at hv25
  obtain ⟨x25, rfl, w25⟩ := hv25
  obtain ⟨v26, r26, B26, C26, rfl, hv26, H27, k26⟩ := HoldL.inv H26
  simp only [HoldV] at hv26
  obtain ⟨x26, rfl⟩ := hv26
  obtain ⟨v27, r27, B27, C27, rfl, hv27, H28, k27⟩ := HoldL.inv H27
  simp only [HoldV] at hv27
  obtain ⟨x27a, x27n, x27c, x27b, rfl, x27l, x27m, x27z, ⟨x27g, x27h⟩, x27r⟩ := hv27
  obtain ⟨v28, r28, B28, C28, rfl, hv28, H29, k28⟩ := HoldL.inv H28
  simp only [HoldV] at hv28
  obtain ⟨x28a, x28n, x28c, x28b, rfl, x28l, x28m, x28z, ⟨x28g, x28h⟩, x28r⟩ := hv28
  obtain ⟨v29, r29, B29, C29, rfl, hv29, H30, k29⟩ := HoldL.inv H29
  simp only [HoldV] at hv29
  obtain ⟨x29, rfl, w29⟩ := hv29
  obtain ⟨v30, r30, B30, C30, rfl, hv30, H31, k30⟩ := HoldL.inv H30
  simp only [HoldV] at hv30
  obtain ⟨x30, rfl, w30⟩ := hv30
  obtain ⟨v31, r31, B31, C31, rfl, hv31, H32, k31⟩ := HoldL.inv H31
  simp only [HoldV] at hv31
  obtain ⟨x31, rfl, w31⟩ := hv31
  obtain ⟨v32, r32, B32, C32, rfl, hv32, H33, k32⟩ := HoldL.inv H32
  simp only [HoldV] at hv32
  obtain ⟨x32, rfl, w32⟩ := hv32
  obtain rfl := HoldL.inv0 H33
  have hE : ∃ XS : List EnV, XS.length = x22n ∧ (∀ v ∈ XS, ∃ L : List Int, InR intR w v.2.2.2 L ∧ EnOk (v.1, v.2.1, v.2.2.1, L) ∧ (B22 ≤ 1048576 → L.length ≤ 1048576 ∧ v.2.2.1.size ≤ 1048576)) ∧ Seg w x22a x22n enR.k (enR.cells XS) := by
    refine seg_recs enR (P := fun v : EnV => ∃ L : List Int, InR intR w v.2.2.2 L ∧ EnOk (v.1, v.2.1, v.2.2.1, L) ∧ (B22 ≤ 1048576 → L.length ≤ 1048576 ∧ v.2.2.1.size ≤ 1048576)) fun i hi => ?_
    obtain ⟨q0, ys, hq0, hl, hrd, hh⟩ := x22r i hi
    have hb := sumTo_at x22b x22n i hi
    simp only [HoldL, HoldV] at hh
    obtain ⟨_, _, D1, E1, rfl, ⟨a0, rfl, wa0⟩, ⟨_, _, D2, E2, rfl, ⟨a1, rfl, wa1⟩, ⟨_, _, D3, E3, rfl, ⟨a2, rfl, wa2⟩, ⟨_, _, D4, E4, rfl, ⟨a3a, a3n, a3c, a3b, rfl, a3l, a3m, a3z, ⟨a3g, a3h⟩, a3r⟩, rfl, j4⟩, j3⟩, j2⟩, j1⟩ := hh
    obtain ⟨L, hLl, hLr, hLs⟩ := hold_ints a3r
    refine ⟨(a0, a1, a2, ⟨a3a, a3n, a3c⟩), ⟨L, ⟨hLs, a3l, by unfold maxLen at a3m; exact a3m⟩, ⟨⟨wa0, wa1⟩, by have := wa2.1; unfold maxLen at this; exact this, hLr⟩, fun hB => ⟨by omega, by show a2.size ≤ _; omega⟩⟩, q0, hq0, hrd⟩
  obtain ⟨XS, hXl, hXp, hXs⟩ := hE
  have hch : ∃ X : List EX, X.map (·.1) = XS ∧ ∀ x ∈ X, InR intR w x.1.2.2.2 x.2 ∧ EnOk x.en ∧ (B22 ≤ 1048576 → x.2.length ≤ 1048576 ∧ x.1.2.2.1.size ≤ 1048576) := by
    clear hXl hXs
    induction XS with
    | nil => exact ⟨[], rfl, by simp⟩
    | cons v XS ih =>
      obtain ⟨X, hX, hx⟩ := ih (fun v hv => hXp v (List.mem_cons_of_mem _ hv))
      obtain ⟨L, h1, h2, h3⟩ := hXp v List.mem_cons_self
      refine ⟨(v, L) :: X, by simp [hX], ?_⟩
      intro x hx'
      rcases List.mem_cons.1 hx' with rfl | hx'
      · exact ⟨h1, h2, h3⟩
      · exact hx x hx'
  obtain ⟨X, hX, hXx⟩ := hch
  obtain ⟨L, hLl, hLr, hLs⟩ := hold_ints x23r
  have hP : ∃ PS : List Pr, PS.length = x27n ∧ (∀ x ∈ PS, (x.1.size ≤ 9223372036854775807 ∧ x.2.size ≤ 9223372036854775807) ∧ (B27 ≤ 1048576 → x.1.size ≤ 1048576 ∧ x.2.size ≤ 1048576)) ∧ Seg w x27a x27n prR.k (prR.cells PS) := by
    refine seg_recs prR (P := fun x : Pr => (x.1.size ≤ 9223372036854775807 ∧ x.2.size ≤ 9223372036854775807) ∧ (B27 ≤ 1048576 → x.1.size ≤ 1048576 ∧ x.2.size ≤ 1048576)) fun i hi => ?_
    have hb := sumTo_at x27b x27n i hi
    obtain ⟨q0, ys, hq0, hl, hrd, hh⟩ := x27r i hi
    simp only [HoldL, HoldV] at hh
    obtain ⟨_, _, D1, E1, rfl, ⟨a0, rfl, wa0⟩, ⟨_, _, D2, E2, rfl, ⟨a1, rfl, wa1⟩, rfl, j2⟩, j1⟩ := hh
    exact ⟨(a0, a1), ⟨⟨by have := wa0.1; unfold maxLen at this; exact this, by have := wa1.1; unfold maxLen at this; exact this⟩, fun hB => ⟨by show a0.size ≤ _; omega, by show a1.size ≤ _; omega⟩⟩, q0, hq0, hrd⟩
  obtain ⟨PS, hPl, hPr, hPs⟩ := hP
  have hQ : ∃ QS : List Ls, QS.length = x28n ∧ (∀ x ∈ QS, LsOk x ∧ (B28 ≤ 1048576 → x.2.2.2.2.size ≤ 1048576)) ∧ Seg w x28a x28n lsR.k (lsR.cells QS) := by
    refine seg_recs lsR (P := fun x : Ls => LsOk x ∧ (B28 ≤ 1048576 → x.2.2.2.2.size ≤ 1048576)) fun i hi => ?_
    have hb := sumTo_at x28b x28n i hi
    obtain ⟨q0, ys, hq0, hl, hrd, hh⟩ := x28r i hi
    simp only [HoldL, HoldV] at hh
    obtain ⟨_, _, D1, E1, rfl, ⟨a0, rfl, wa0⟩, ⟨_, _, D2, E2, rfl, ⟨a1, rfl, wa1⟩, ⟨_, _, D3, E3, rfl, ⟨a2, rfl, wa2⟩, ⟨_, _, D4, E4, rfl, ⟨a3, rfl⟩, ⟨_, _, D5, E5, rfl, ⟨a4, rfl, wa4⟩, rfl, j5⟩, j4⟩, j3⟩, j2⟩, j1⟩ := hh
    exact ⟨(a0, a1, a2, a3, a4), ⟨⟨⟨⟨wa0, wa1⟩, wa2⟩, by have := wa4.1; unfold maxLen at this; exact this⟩, fun hB => by show a4.size ≤ _; omega⟩, q0, hq0, hrd⟩
  obtain ⟨QS, hQl, hQr, hQs⟩ := hQ
  refine ⟨⟨⟨x0, x1, x2, x3, x4, x5, x6, x7, x8, x9, x10, x11, x12, x13, x14, x15, x16, x17, x18, x19, x20, x21, x24, x25, x26, x29, x30, x31, x32⟩, ⟨x22a, x22n, x22c⟩, ⟨x23a, x23n, x23c⟩, ⟨x27a, x27n, x27c⟩, ⟨x28a, x28n, x28c⟩⟩, ⟨⟨x0, x1, x2, x3, x4, x5, x6, x7, x8, x9, x10, x11, x12, x13, x14, x15, x16, x17, x18, x19, x20, x21, x24, x25, x26, x29, x30, x31, x32⟩, ens X, L, PS, QS⟩, X, rfl, ⟨rfl, ⟨⟨by rw [hX]; exact hXs, x22l, by unfold maxLen at x22m; exact x22m⟩, fun x hx => (hXx x hx).1⟩, rfl, ⟨hLs, x23l, by unfold maxLen at x23m; exact x23m⟩, ⟨hPs, x27l, by unfold maxLen at x27m; exact x27m⟩, ⟨hQs, x28l, by unfold maxLen at x28m; exact x28m⟩⟩, ⟨⟨w0, w1, w2, w3, w4, w5, w6, w7, (by have := w8.1; unfold maxLen at this; exact this), (by have := w9.1; unfold maxLen at this; exact this), (by have := w10.1; unfold maxLen at this; exact this), w12, w13, (by have := w15.1; unfold maxLen at this; exact this), w16, w17, w18, w19, w20, (by have := w24.1; unfold maxLen at this; exact this), w25, w29, w30, w31, w32⟩, ?_, hLr, fun x hx => (hPr x hx).1, fun x hx => (hQr x hx).1⟩, fun hB => ⟨⟨?_, ?_, ?_, ?_, ?_⟩, ⟨?_, ?_, ?_, ?_, ?_, ?_, fun x hx => (hPr x hx).2 (by omega), fun x hx => (hQr x hx).2 (by omega)⟩⟩⟩
  · intro x hx
    obtain ⟨y, hy, rfl⟩ := List.mem_map.1 hx
    exact (hXx y hy).2.1
  · have : (ens X).length = x22n := by rw [← hXl, ← hX]; simp [ens]
    show (ens X).length ≤ _
    omega
  · intro x hx
    obtain ⟨y, hy, rfl⟩ := List.mem_map.1 hx
    exact ((hXx y hy).2.2 (by omega)).1
  · show L.length ≤ _; omega
  · show PS.length ≤ _; omega
  · show QS.length ≤ _; omega
  · show x8.size ≤ _; omega
  · show x9.size ≤ _; omega
  · show x10.size ≤ _; omega
  · show x15.size ≤ _; omega
  · show x24.size ≤ _; omega
  · intro x hx
    obtain ⟨y, hy, rfl⟩ := List.mem_map.1 hx
    exact ((hXx y hy).2.2 (by omega)).2
end Go.Proofs.Ytodcdfelbphajaa
