/-
  Package msg: the document's Encode.
-/
import Derived.Test.YtodcdfelbphajaaMsgN
namespace Go.Proofs.Ytodcdfelbphajaa
open Go.RowKit
set_option maxRecDepth 100000

theorem Rd.ls3 {w : World} {a : Addr} {x : Ls} (h : Rd w a (lsR.f x)) : Rd w (a.add 2) [.int .u8 x.2.2.1, .bool x.2.2.2.1, .string x.2.2.2.2] := h.drop fun j v hv => by
  match j with
  | 0 => exact hv
  | 1 => exact hv
  | 2 => exact hv
  | j + 3 => simp at hv
theorem Rd.x {w w' : World} {a : Addr} {vs : List Value} (h : Rd w a vs) (e : Ext [] w w') : Rd w' a vs := h.ext e
set_option maxHeartbeats 2000000 in
theorem refEncode_spec (a : MV) (p : MP) (X : List EX) (w : World) (h : MIn w a p X) (hok : EOk p) (hf : Fit p) :
    Calls Try.prog 15 #[mva a] w fun e w' => ∃ s : Sl, e = .returned (.tuple #[.slice s.base s.len s.cap, .int .i64 (encP p).1]) ∧ Own w w' s (encP p).2 ∧ Ext [] w w' := by
  unfold mva
  apply sh_butteryref13_Encode_ok
  unfold sh_butteryref13_Encode
  have k0 := hok.k0
  have hc := h.c
  refine VNw.i fun mb w1 hb1 hk1 e1 => ?_
  have hk1 : Bk w1 mb (mvF a) 34 := hk1
  refine VLd.i1 (t := .int .u8) a.c.f0 (Rd.of_bk hk1 rfl) (VLd.i1 (t := .int .u8) a.c.f0 (Rd.of_bk hk1 rfl) (VIf.mk (fun hd => ?_) (fun hd => ?_)))
  · have hd : p.c.f0 < 1 ∨ 19 < p.c.f0 := by
      rw [hc] at hd
      simpa using hd
    have : encP p = (1, []) := by unfold encP; rw [if_pos hd]
    rw [this]
    exact ⟨⟨none, 0, 0⟩, rfl, Own.nil _ _, e1⟩
  have hd : ¬ (p.c.f0 < 1 ∨ 19 < p.c.f0) := by
    rw [hc] at hd
    simp at hd
    omega
  refine VLd.mv a (Rd.of_bk hk1 rfl) ?_
  refine VCall.i (Size_spec a p X w1 (h.ext0 e1) hok hf) ?_
  rintro e w2 ⟨n, rfl, hn, e2⟩
  have hge := szT_le hok
  refine exW.i1 (t := .int .i64) (n : Int) rfl (VIf.mk (fun hz => ?_) (fun hz => ?_))
  · have hz : 8192 < n := by simp at hz; omega
    have := (near_iff hn).1 hz
    have : encP p = (40, []) := by unfold encP; rw [if_neg hd, if_pos (by omega)]
    rw [this]
    exact ⟨⟨none, 0, 0⟩, rfl, Own.nil _ _, e1.then0 e2⟩
  have hz : ¬ 8192 < n := by simp at hz; omega
  have hT : szT p ≤ 8192 := by
    have := near_iff hn
    omega
  have lX : X.length = p.E.length := by rw [← h.ex]; simp [ens]
  have lE : a.e.len = X.length := h.es.len
  have lP := h.pi.len
  have lQ := h.qi.len
  have bT : p.P.length ≤ 8192 ∧ p.Q.length ≤ 8192 ∧ X.length ≤ 8192 := by
    unfold szT szH at hT
    omega
  obtain ⟨bP, bQ, bX⟩ := bT
  clear hT hge hn hz
  have hk2 := hk1.ext e2
  have h0 : RE w w2 mb (mvF a) 34 ⟨none, 0, 0⟩ [] 0 := ⟨hk2, Own.nil _ _, by simp, e1.then0 e2⟩
  refine VLd.i1 (t := .int .u8) a.c.f0 (Rd.of_bk h0.m rfl) ?_
  refine h0.kind (by rw [hc]; exact hok.k0) (by omega) fun s101 w101 h1 e101 => ?_
  intro wd2 hw2
  have hd2 := h1.ext0 (Ext.drew' hw2)
  refine VLd.i1 (t := .int .i64) a.c.f1 (Rd.of_bk hd2.m rfl) ?_
  refine VLd.i1 (t := .int .i64) a.c.f2 (Rd.of_bk hd2.m rfl) ?_
  refine VLd.i1 (t := .int .i64) a.c.f3 (Rd.of_bk hd2.m rfl) ?_
  refine VLd.i1 (t := .int .i64) a.c.f4 (Rd.of_bk hd2.m rfl) ?_
  refine VLd.i1 (t := .int .i64) a.c.f5 (Rd.of_bk hd2.m rfl) ?_
  refine VLd.i1 (t := .int .i64) a.c.f6 (Rd.of_bk hd2.m rfl) ?_
  refine hd2.num (by rw [hc]; exact hok.n1 _ (by simp)) (by omega) fun s103 w103 h3 e103 => ?_
  refine ⟨Rd.of_bk h3.m rfl, ?_⟩
  refine ⟨Rd.of_bk h3.m rfl, ?_⟩
  refine ⟨Rd.of_bk h3.m rfl, ?_⟩
  refine ⟨Rd.of_bk h3.m rfl, ?_⟩
  refine ⟨Rd.of_bk h3.m rfl, ?_⟩
  refine h3.num (by rw [hc]; exact hok.n1 _ (by simp)) (by omega) fun s104 w104 h4 e104 => ?_
  refine ⟨Rd.of_bk h4.m rfl, ?_⟩
  refine ⟨Rd.of_bk h4.m rfl, ?_⟩
  refine ⟨Rd.of_bk h4.m rfl, ?_⟩
  refine ⟨Rd.of_bk h4.m rfl, ?_⟩
  refine h4.num (by rw [hc]; exact hok.n1 _ (by simp)) (by omega) fun s105 w105 h5 e105 => ?_
  refine ⟨Rd.of_bk h5.m rfl, ?_⟩
  refine ⟨Rd.of_bk h5.m rfl, ?_⟩
  refine ⟨Rd.of_bk h5.m rfl, ?_⟩
  refine h5.num (by rw [hc]; exact hok.n1 _ (by simp)) (by omega) fun s106 w106 h6 e106 => ?_
  refine ⟨Rd.of_bk h6.m rfl, ?_⟩
  refine ⟨Rd.of_bk h6.m rfl, ?_⟩
  refine h6.num (by rw [hc]; exact hok.n1 _ (by simp)) (by omega) fun s107 w107 h7 e107 => ?_
  refine ⟨Rd.of_bk h7.m rfl, ?_⟩
  refine h7.num (by rw [hc]; exact hok.n1 _ (by simp)) (by omega) fun s108 w108 h8 e108 => ?_
  refine VLd.i1 (t := .int .u8) a.c.f7 (Rd.of_bk h8.m rfl) ?_
  refine h8.kind (by rw [hc]; exact hok.k7) (by omega) fun s109 w109 h9 e109 => ?_
  intro wd10 hw10
  have hd10 := h9.ext0 (Ext.drew' hw10)
  refine VLd.i1 (t := .str) a.c.f8 (Rd.of_bk hd10.m rfl) ?_
  refine VLd.i1 (t := .str) a.c.f9 (Rd.of_bk hd10.m rfl) ?_
  refine VLd.i1 (t := .str) a.c.f10 (Rd.of_bk hd10.m rfl) ?_
  refine hd10.text (by rw [hc]; exact hok.s8 _ (by simp)) (by omega) fun s111 w111 h11 e111 => ?_
  refine ⟨Rd.of_bk h11.m rfl, ?_⟩
  refine ⟨Rd.of_bk h11.m rfl, ?_⟩
  refine h11.text (by rw [hc]; exact hok.s8 _ (by simp)) (by omega) fun s112 w112 h12 e112 => ?_
  refine ⟨Rd.of_bk h12.m rfl, ?_⟩
  refine h12.text (by rw [hc]; exact hok.s8 _ (by simp)) (by omega) fun s113 w113 h13 e113 => ?_
  refine VLd.i1 (t := .bool) a.c.f11 (Rd.of_bk h13.m rfl) ?_
  refine h13.flag (by omega) fun s114 w114 h14 e114 => ?_
  intro wd15 hw15
  have hd15 := h14.ext0 (Ext.drew' hw15)
  refine VLd.i1 (t := .int .i64) a.c.f12 (Rd.of_bk hd15.m rfl) ?_
  refine VLd.i3 (t := .int .u8) (u := .bool) (v := .str) a.c.f13 a.c.f14 a.c.f15 (Rd.of_bk hd15.m rfl) ?_
  refine hd15.num (by rw [hc]; exact hok.n12) (by omega) fun s116 w116 h16 e116 => ?_
  refine ⟨Rd.of_bk h16.m rfl, ?_⟩
  refine h16.step (yres_spec _ _ a.c.f13 a.c.f14 a.c.f15 _ h16.own.seg (by have := h16.len; omega) (by rw [hc]; exact hok.k13) (by rw [hc]; exact hok.s15)) (by have := cRes_len a.c.f13 a.c.f14 (x3 := a.c.f15) (by rw [hc]; exact hok.s15); omega) fun s117 w117 h17 e117 => ?_
  intro wd18 hw18
  have hd18 := h17.ext0 (Ext.drew' hw18)
  refine VLd.i1 (t := .int .i64) a.c.f16 (Rd.of_bk hd18.m rfl) ?_
  refine VLd.i1 (t := .int .i64) a.c.f17 (Rd.of_bk hd18.m rfl) ?_
  refine VLd.i1 (t := .int .i64) a.c.f18 (Rd.of_bk hd18.m rfl) ?_
  refine VLd.i1 (t := .int .i64) a.c.f19 (Rd.of_bk hd18.m rfl) ?_
  refine VLd.i1 (t := .int .i64) a.c.f20 (Rd.of_bk hd18.m rfl) ?_
  refine hd18.num (by rw [hc]; exact hok.n16 _ (by simp)) (by omega) fun s119 w119 h19 e119 => ?_
  refine ⟨Rd.of_bk h19.m rfl, ?_⟩
  refine ⟨Rd.of_bk h19.m rfl, ?_⟩
  refine ⟨Rd.of_bk h19.m rfl, ?_⟩
  refine ⟨Rd.of_bk h19.m rfl, ?_⟩
  refine h19.num (by rw [hc]; exact hok.n16 _ (by simp)) (by omega) fun s120 w120 h20 e120 => ?_
  refine ⟨Rd.of_bk h20.m rfl, ?_⟩
  refine ⟨Rd.of_bk h20.m rfl, ?_⟩
  refine ⟨Rd.of_bk h20.m rfl, ?_⟩
  refine h20.num (by rw [hc]; exact hok.n16 _ (by simp)) (by omega) fun s121 w121 h21 e121 => ?_
  refine ⟨Rd.of_bk h21.m rfl, ?_⟩
  refine ⟨Rd.of_bk h21.m rfl, ?_⟩
  refine h21.num (by rw [hc]; exact hok.n16 _ (by simp)) (by omega) fun s122 w122 h22 e122 => ?_
  refine ⟨Rd.of_bk h22.m rfl, ?_⟩
  refine h22.num (by rw [hc]; exact hok.n16 _ (by simp)) (by omega) fun s123 w123 h23 e123 => ?_
  refine VLd.i1 (t := .bool) a.c.f21 (Rd.of_bk h23.m rfl) ?_
  refine h23.flag (by omega) fun s124 w124 h24 e124 => ?_
  refine VLd.s a.e (Rd.of_bk h24.m rfl) ?_
  refine h24.cnt (by omega) fun s125 w125 h25 e125 => ?_
  refine ⟨fun k' b i W => ∃ m : Nat, i = (m : Int) ∧ m ≤ X.length ∧ k' = X.length - m ∧ ∃ k, k ≤ 100 + 4 * m ∧ RE w W mb (mvF a) 34 b ([] ++ encC a.c.f0 ++ cNum a.c.f1 ++ cNum a.c.f2 ++ cNum a.c.f3 ++ cNum a.c.f4 ++ cNum a.c.f5 ++ cNum a.c.f6 ++ encC a.c.f7 ++ encS a.c.f8 ++ encS a.c.f9 ++ encS a.c.f10 ++ cFlag a.c.f11 ++ cNum a.c.f12 ++ cRes a.c.f13 a.c.f14 a.c.f15 ++ cNum a.c.f16 ++ cNum a.c.f17 ++ cNum a.c.f18 ++ cNum a.c.f19 ++ cNum a.c.f20 ++ cFlag a.c.f21 ++ encC (a.e.len : Int) ++ (p.E.take m).flatMap cEn) k, ⟨_, 0, rfl, by omega, rfl, 100, by omega, by simpa using h25.up (k' := 100) (by omega)⟩, ?_⟩
  rintro k1 b i w300 ⟨m, rfl, hm, rfl, kk, hkk, g0⟩
  refine VLd.s a.e (Rd.of_bk g0.m rfl) (VIf.mk (fun hc1 => ?_) (fun hc1 => ?_))
  · have hm' : m < X.length := by simp at hc1; omega
    have hmE : m < p.E.length := by omega
    have hx : p.E[m] = X[m].en := by
      have h1 : p.E[m] = (ens X)[m]'(by simp [ens]; omega) := by simp only [h.ex]
      rw [h1]; simp [ens]
    obtain ⟨b1, b2, b3, b4, b5⟩ := hok.e _ (List.getElem_mem hmE)
    rw [hx] at b1 b2 b3 b4 b5
    have b4 : (X[m]).2.length ≤ 1048576 := b4
    have b5 : ∀ n ∈ (X[m]).2, i64ok n := b5
    intro w301 hw301
    have g1 := g0.ext0 (Ext.drew' hw301)
    have hs1 := h.es.ext0 g1.e
    refine VLd.s a.e (Rd.of_bk g1.m rfl) (VIx.es hs1 hm' rfl fun a1 hr1 => VLd.i1 (t := .int .i64) (X[m]).1.1 (hr1.fld0 rfl) ?_)
    refine VLd.s a.e (Rd.of_bk g1.m rfl) (VIx.es hs1 hm' rfl fun a2 hr2 => VLd.i1 (t := .int .u8) (X[m]).1.2.1 (hr2.fld 1 rfl) ?_)
    refine g1.num b1 (by omega) fun s2 w302 g2 e302 => ⟨(hr2.x e302).fld 1 rfl, Rd.of_bk g2.m rfl, ?_⟩
    refine g2.kind b2 (by omega) fun s3 w303 g3 e303 => ?_
    intro w304 hw304
    have g4 := g3.ext0 (Ext.drew' hw304)
    have hs4 := h.es.ext0 g4.e
    refine VLd.s a.e (Rd.of_bk g4.m rfl) (VIx.es hs4 hm' rfl fun a3 hr3 => VLd.i1 (t := .str) (X[m]).1.2.2.1 (hr3.fld 2 rfl) ?_)
    refine VLd.s a.e (Rd.of_bk g4.m rfl) (VIx.es hs4 hm' rfl fun a4 hr4 => VLd.s (X[m]).1.2.2.2 (hr4.fld 3 rfl) ?_)
    refine g4.text b3 (by omega) fun s5 w305 g5 e305 => ⟨(hr4.x e305).fld 3 rfl, Rd.of_bk g5.m rfl, ?_⟩
    have hi5 := (hs4.all _ (List.getElem_mem hm')).ext0 e305
    refine g5.step (ynumbers_spec _ _ _ (X[m]).2 _ g5.own.seg (by have := g5.len; omega) hi5 b5 b4) (by have := cInts_len b5 b4; omega) fun s6 w306 g6 e306 => ?_
    rw [w64 (n := (m : Int) + 1) (by omega)]
    refine VSet.i ⟨_, (show X.length - (m + 1) < X.length - m by omega), m + 1, rfl, by omega, rfl, kk + 4, ?_, ?_⟩
    rotate_left
    · rw [List.take_succ_eq_append_getElem hmE, List.flatMap_append, hx]
      simp only [List.flatMap_cons, List.flatMap_nil, List.append_nil]
      unfold cEn
      simp only [← List.append_assoc]
      exact g6
    · omega
  have hmm : m = p.E.length := by simp at hc1; omega
  subst hmm
  rw [List.take_length] at g0
  clear hc1 hm
  have g0 := g0.up (k' := 40000) (by omega)
  refine VLd.s a.l (Rd.of_bk g0.m rfl) ?_
  refine g0.step (ynumbers_spec _ _ _ p.L _ g0.own.seg (by have := g0.len; omega) (h.li.ext0 g0.e) hok.l hf.fl) (by have := cInts_len hok.l hf.fl; omega) fun s126 w126 h26 e126 => ?_
  intro wd27 hw27
  have hd27 := h26.ext0 (Ext.drew' hw27)
  refine VLd.i1 (t := .str) a.c.f24 (Rd.of_bk hd27.m rfl) ?_
  refine VLd.i1 (t := .int .i64) a.c.f25 (Rd.of_bk hd27.m rfl) ?_
  refine VLd.i1 (t := .bool) a.c.f26 (Rd.of_bk hd27.m rfl) ?_
  refine hd27.text (by rw [hc]; exact hok.s24) (by omega) fun s128 w128 h28 e128 => ?_
  refine ⟨Rd.of_bk h28.m rfl, ?_⟩
  refine ⟨Rd.of_bk h28.m rfl, ?_⟩
  refine h28.num (by rw [hc]; exact hok.n25) (by omega) fun s129 w129 h29 e129 => ?_
  refine ⟨Rd.of_bk h29.m rfl, ?_⟩
  refine h29.flag (by omega) fun s130 w130 h30 e130 => ?_
  refine VLd.s a.p (Rd.of_bk h30.m rfl) ?_
  refine h30.cnt (by omega) fun s131 w131 h31 e131 => ?_
  refine ⟨fun k' b i W => ∃ m : Nat, i = (m : Int) ∧ m ≤ p.P.length ∧ k' = p.P.length - m ∧ ∃ k, k ≤ 40010 + 2 * m ∧ RE w W mb (mvF a) 34 b ([] ++ encC a.c.f0 ++ cNum a.c.f1 ++ cNum a.c.f2 ++ cNum a.c.f3 ++ cNum a.c.f4 ++ cNum a.c.f5 ++ cNum a.c.f6 ++ encC a.c.f7 ++ encS a.c.f8 ++ encS a.c.f9 ++ encS a.c.f10 ++ cFlag a.c.f11 ++ cNum a.c.f12 ++ cRes a.c.f13 a.c.f14 a.c.f15 ++ cNum a.c.f16 ++ cNum a.c.f17 ++ cNum a.c.f18 ++ cNum a.c.f19 ++ cNum a.c.f20 ++ cFlag a.c.f21 ++ encC (a.e.len : Int) ++ p.E.flatMap cEn ++ cInts p.L ++ encS a.c.f24 ++ cNum a.c.f25 ++ cFlag a.c.f26 ++ encC (a.p.len : Int) ++ (p.P.take m).flatMap cPr) k, ⟨_, 0, rfl, by omega, rfl, 40010, by omega, by simpa using h31.up (k' := 40010) (by omega)⟩, ?_⟩
  rintro k2 b2 i2 w400 ⟨m, rfl, hm, rfl, kk2, hkk2, g0⟩
  refine VLd.s a.p (Rd.of_bk g0.m rfl) (VIf.mk (fun hc1 => ?_) (fun hc1 => ?_))
  · have hm' : m < p.P.length := by simp at hc1; omega
    obtain ⟨b1, b2⟩ := hok.pp _ (List.getElem_mem hm')
    intro w401 hw401
    have g1 := g0.ext0 (Ext.drew' hw401)
    have hs1 := (h.pi.ext0 g1.e).1
    refine VLd.s a.p (Rd.of_bk g1.m rfl) (VIx.rec (r := prR) hs1 hm' rfl fun a1 hr1 => VLd.i1 (t := .str) (p.P[m]).1 (hr1.fld0 rfl) ?_)
    refine VLd.s a.p (Rd.of_bk g1.m rfl) (VIx.rec (r := prR) hs1 hm' rfl fun a2 hr2 => VLd.i1 (t := .str) (p.P[m]).2 (hr2.fld 1 rfl) ?_)
    refine g1.text b1 (by omega) fun s2 w402 g2 e402 => ⟨(hr2.x e402).fld 1 rfl, Rd.of_bk g2.m rfl, ?_⟩
    refine g2.text b2 (by omega) fun s3 w403 g3 e403 => ?_
    rw [w64 (n := (m : Int) + 1) (by omega)]
    refine VSet.i ⟨_, (show p.P.length - (m + 1) < p.P.length - m by omega), m + 1, rfl, by omega, rfl, kk2 + 2, ?_, ?_⟩
    rotate_left
    · rw [List.take_succ_eq_append_getElem hm', List.flatMap_append]
      simp only [List.flatMap_cons, List.flatMap_nil, List.append_nil]
      unfold cPr
      simp only [← List.append_assoc]
      exact g3
    · omega
  have hmm : m = p.P.length := by simp at hc1; omega
  subst hmm
  rw [List.take_length] at g0
  clear hc1 hm
  have g0 := g0.up (k' := 60000) (by omega)
  refine VLd.s a.q (Rd.of_bk g0.m rfl) ?_
  refine g0.cnt (by omega) fun s132 w132 h32 e132 => ?_
  refine ⟨fun k' b i W => ∃ m : Nat, i = (m : Int) ∧ m ≤ p.Q.length ∧ k' = p.Q.length - m ∧ ∃ k, k ≤ 60001 + 3 * m ∧ RE w W mb (mvF a) 34 b ([] ++ encC a.c.f0 ++ cNum a.c.f1 ++ cNum a.c.f2 ++ cNum a.c.f3 ++ cNum a.c.f4 ++ cNum a.c.f5 ++ cNum a.c.f6 ++ encC a.c.f7 ++ encS a.c.f8 ++ encS a.c.f9 ++ encS a.c.f10 ++ cFlag a.c.f11 ++ cNum a.c.f12 ++ cRes a.c.f13 a.c.f14 a.c.f15 ++ cNum a.c.f16 ++ cNum a.c.f17 ++ cNum a.c.f18 ++ cNum a.c.f19 ++ cNum a.c.f20 ++ cFlag a.c.f21 ++ encC (a.e.len : Int) ++ p.E.flatMap cEn ++ cInts p.L ++ encS a.c.f24 ++ cNum a.c.f25 ++ cFlag a.c.f26 ++ encC (a.p.len : Int) ++ p.P.flatMap cPr ++ encC (a.q.len : Int) ++ (p.Q.take m).flatMap cLs) k, ⟨_, 0, rfl, by omega, rfl, 60001, by omega, by simpa using h32.up (k' := 60001) (by omega)⟩, ?_⟩
  rintro k3 b3 i3 w500 ⟨m, rfl, hm, rfl, kk3, hkk3, g0⟩
  refine VLd.s a.q (Rd.of_bk g0.m rfl) (VIf.mk (fun hc1 => ?_) (fun hc1 => ?_))
  · have hm' : m < p.Q.length := by simp at hc1; omega
    obtain ⟨b1, b2, b3, b4⟩ := hok.qq _ (List.getElem_mem hm')
    intro w501 hw501
    have g1 := g0.ext0 (Ext.drew' hw501)
    have hs1 := (h.qi.ext0 g1.e).1
    refine VLd.s a.q (Rd.of_bk g1.m rfl) (VIx.rec (r := lsR) hs1 hm' rfl fun a1 hr1 => VLd.i1 (t := .int .i64) (p.Q[m]).1 (hr1.fld0 rfl) ?_)
    refine VLd.s a.q (Rd.of_bk g1.m rfl) (VIx.rec (r := lsR) hs1 hm' rfl fun a2 hr2 => VLd.i1 (t := .int .i64) (p.Q[m]).2.1 (hr2.fld 1 rfl) ?_)
    refine VLd.s a.q (Rd.of_bk g1.m rfl) (VIx.rec (r := lsR) hs1 hm' rfl fun a3 hr3 => VLd.i3 (t := .int .u8) (u := .bool) (v := .str) (p.Q[m]).2.2.1 (p.Q[m]).2.2.2.1 (p.Q[m]).2.2.2.2 hr3.ls3 ?_)
    refine g1.num b1 (by omega) fun s2 w502 g2 e502 => ⟨(hr3.x e502).ls3, Rd.of_bk g2.m rfl, (hr2.x e502).fld 1 rfl, Rd.of_bk g2.m rfl, ?_⟩
    refine g2.num b2 (by omega) fun s3 w503 g3 e503 => ⟨((hr3.x e502).x e503).ls3, Rd.of_bk g3.m rfl, ?_⟩
    refine g3.step (yres_spec _ _ (p.Q[m]).2.2.1 (p.Q[m]).2.2.2.1 (p.Q[m]).2.2.2.2 _ g3.own.seg (by have := g3.len; omega) b3 b4) (by have := cRes_len (p.Q[m]).2.2.1 (p.Q[m]).2.2.2.1 b4; omega) fun s4 w504 g4 e504 => ?_
    rw [w64 (n := (m : Int) + 1) (by omega)]
    refine VSet.i ⟨_, (show p.Q.length - (m + 1) < p.Q.length - m by omega), m + 1, rfl, by omega, rfl, kk3 + 3, ?_, ?_⟩
    rotate_left
    · rw [List.take_succ_eq_append_getElem hm', List.flatMap_append]
      simp only [List.flatMap_cons, List.flatMap_nil, List.append_nil]
      unfold cLs
      simp only [← List.append_assoc]
      exact g4
    · omega
  have hmm : m = p.Q.length := by simp at hc1; omega
  subst hmm
  rw [List.take_length] at g0
  clear hc1 hm
  have g0 := g0.up (k' := 90000) (by omega)
  intro wd33 hw33
  have hd33 := g0.ext0 (Ext.drew' hw33)
  refine VLd.i1 (t := .int .u8) a.c.f29 (Rd.of_bk hd33.m rfl) ?_
  refine VLd.i1 (t := .int .i64) a.c.f30 (Rd.of_bk hd33.m rfl) ?_
  refine VLd.i1 (t := .int .i64) a.c.f31 (Rd.of_bk hd33.m rfl) ?_
  refine VLd.i1 (t := .int .i64) a.c.f32 (Rd.of_bk hd33.m rfl) ?_
  refine hd33.kind (by rw [hc]; exact hok.k29) (by omega) fun s134 w134 h34 e134 => ?_
  refine ⟨Rd.of_bk h34.m rfl, ?_⟩
  refine ⟨Rd.of_bk h34.m rfl, ?_⟩
  refine ⟨Rd.of_bk h34.m rfl, ?_⟩
  refine h34.num (by rw [hc]; exact hok.n30 _ (by simp)) (by omega) fun s135 w135 h35 e135 => ?_
  refine ⟨Rd.of_bk h35.m rfl, ?_⟩
  refine ⟨Rd.of_bk h35.m rfl, ?_⟩
  refine h35.num (by rw [hc]; exact hok.n30 _ (by simp)) (by omega) fun s136 w136 h36 e136 => ?_
  refine ⟨Rd.of_bk h36.m rfl, ?_⟩
  refine h36.num (by rw [hc]; exact hok.n30 _ (by simp)) (by omega) fun s137 w137 h37 e137 => ?_
  have ho := h37.own
  have hfin : [] ++ encC a.c.f0 ++ cNum a.c.f1 ++ cNum a.c.f2 ++ cNum a.c.f3 ++ cNum a.c.f4 ++ cNum a.c.f5 ++ cNum a.c.f6 ++ encC a.c.f7 ++ encS a.c.f8 ++ encS a.c.f9 ++ encS a.c.f10 ++ cFlag a.c.f11 ++ cNum a.c.f12 ++ cRes a.c.f13 a.c.f14 a.c.f15 ++ cNum a.c.f16 ++ cNum a.c.f17 ++ cNum a.c.f18 ++ cNum a.c.f19 ++ cNum a.c.f20 ++ cFlag a.c.f21 ++ encC (a.e.len : Int) ++ p.E.flatMap cEn ++ cInts p.L ++ encS a.c.f24 ++ cNum a.c.f25 ++ cFlag a.c.f26 ++ encC (a.p.len : Int) ++ p.P.flatMap cPr ++ encC (a.q.len : Int) ++ p.Q.flatMap cLs ++ encC a.c.f29 ++ cNum a.c.f30 ++ cNum a.c.f31 ++ cNum a.c.f32 = encM p := by
    rw [hc, lE, lX, lP, lQ]
    unfold encM
    simp only [List.flatMap_cons, List.flatMap_nil, List.append_nil, List.nil_append, List.append_assoc]
  have hl := ho.len
  refine VIf.mk (fun hz => ?_) (fun hz => ?_)
  · have hz : 8192 < (encM p).length := by rw [← hfin, ← hl]; simp at hz; omega
    have : encP p = (40, []) := by unfold encP; rw [if_neg hd, if_pos hz]
    rw [this]
    exact ⟨⟨none, 0, 0⟩, rfl, Own.nil _ _, h37.e⟩
  · have hz : ¬ 8192 < (encM p).length := by rw [← hfin, ← hl]; simp at hz; omega
    have : encP p = (0, encM p) := by unfold encP; rw [if_neg hd, if_neg hz]
    rw [this, ← hfin]
    exact ⟨_, rfl, ho, h37.e⟩
end Go.Proofs.Ytodcdfelbphajaa
