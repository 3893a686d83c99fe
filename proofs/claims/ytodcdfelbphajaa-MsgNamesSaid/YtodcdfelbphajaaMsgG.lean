/-
  Package msg: a message is spoilt.
-/
import Derived.Test.YtodcdfelbphajaaMsgF
namespace Go.Proofs.Ytodcdfelbphajaa
open Go.RowKit
set_option maxRecDepth 100000

theorem spoil_spec (m : MV) (p : MP) (X : List EX) (w0 w : World) (h : MO w0 w m p X) (hf : Fit p) :
    Calls Try.prog 13 #[mva m] w fun e w' => e = .returned (.tuple #[]) ∧ ∃ M, (∀ b ∈ M, w0.heap.size ≤ b) ∧ Ext M w w' := by
  unfold mva
  apply sh_butterylaw13_spoil_ok
  unfold sh_butterylaw13_spoil
  have hXl : X.length = p.E.length := by rw [← h.ex]; simp [ens]
  have hXa : ∀ j (hj : j < X.length), (X[j]).2.length ≤ 1048576 := fun j hj => by
    have := hf.fa (X[j].en) (by rw [← h.ex]; exact List.mem_map_of_mem (List.getElem_mem hj))
    exact this
  have f1 := hf.fe
  have f2 := hf.fl
  have f3 := hf.fp
  have f4 := hf.fq
  have lE := h.er.len
  rw [List.length_map] at lE
  refine VNw.i fun mb w1 hb1 hk1 e1 => ?_
  have hk1 : Bk w1 mb (mvF m) 34 := hk1
  obtain ⟨M, hM⟩ : ∃ M : List Nat, M = rowB m.e ++ X.flatMap (fun x => rowB x.1.2.2.2) ++ rowB m.l ++ rowB m.p ++ rowB m.q := ⟨_, rfl⟩
  have me : ∀ b ∈ rowB m.e, b ∈ M := fun b hb => by rw [hM]; simp [hb]
  have ml : ∀ b ∈ rowB m.l, b ∈ M := fun b hb => by rw [hM]; simp [hb]
  have mp : ∀ b ∈ rowB m.p, b ∈ M := fun b hb => by rw [hM]; simp [hb]
  have mq : ∀ b ∈ rowB m.q, b ∈ M := fun b hb => by rw [hM]; simp [hb]
  have mx : ∀ j (hj : j < X.length), ∀ b ∈ rowB (X[j]).1.2.2.2, b ∈ M := fun j hj b hb => by
    rw [hM]
    simp only [List.mem_append, List.mem_flatMap]
    exact .inl (.inl (.inl (.inr ⟨X[j], List.getElem_mem hj, hb⟩)))
  have hge : ∀ b ∈ M, w0.heap.size ≤ b := fun b hb => by
    rw [hM] at hb
    simp only [List.mem_append, List.mem_flatMap] at hb
    rcases hb with (((hb | ⟨x, hx, hb⟩) | hb) | hb) | hb
    · exact h.er.2 b hb
    · obtain ⟨j, hj, rfl⟩ := List.mem_iff_getElem.1 hx
      exact (h.ea j hj).2 b hb
    · exact h.li.2 b hb
    · exact h.pi.2 b hb
    · exact h.qi.2 b hb
  clear hM
  refine ⟨fun k i W => ∃ (n : Nat) (L : List EnV), i = (n : Int) ∧ n ≤ X.length ∧ k = X.length - n ∧ L.length = X.length ∧ (∀ j (hj : j < L.length) (hj' : j < X.length), (L[j]).2.2.2 = (X[j]).1.2.2.2) ∧ OwnR enR 58 w0 W m.e L ∧ (∀ j (hj : j < X.length), n ≤ j → OwnR intR 3 w0 W (X[j]).1.2.2.2 (X[j]).2) ∧
      OwnR intR 3 w0 W m.l p.L ∧ OwnR prR 52 w0 W m.p p.P ∧ OwnR lsR 55 w0 W m.q p.Q ∧ Bk W mb (mvF m) 34 ∧ Ext M w W,
    ⟨_, 0, X.map (·.1), rfl, by omega, rfl, by simp, fun j hj hj' => by simp, h.er.ext0 e1, fun j hj _ => (h.ea j hj).ext0 e1, h.li.ext0 e1, h.pi.ext0 e1, h.qi.ext0 e1, hk1, e1.mono (by simp)⟩, ?_⟩
  rintro k i w2 ⟨n, L, rfl, hn, rfl, hLl, hLX, her, hea, hli, hpi, hqi, hkm, e2⟩
  refine VLd.s m.e (Rd.of_bk hkm rfl) (VIf.mk (fun hc => ?_) (fun hc => ?_))
  · have hn' : n < X.length := by simp at hc; omega
    have hnL : n < L.length := by omega
    have hxa := hXa n hn'
    refine ⟨fun k i W => ∃ (c : Nat) (L' : List Int), i = (c : Int) ∧ c ≤ (X[n]).2.length ∧ k = (X[n]).2.length - c ∧ L'.length = (X[n]).2.length ∧ OwnR intR 3 w0 W (X[n]).1.2.2.2 L' ∧ OwnR enR 58 w0 W m.e L ∧ (∀ j (hj : j < X.length), n + 1 ≤ j → OwnR intR 3 w0 W (X[j]).1.2.2.2 (X[j]).2) ∧
        OwnR intR 3 w0 W m.l p.L ∧ OwnR prR 52 w0 W m.p p.P ∧ OwnR lsR 55 w0 W m.q p.Q ∧ Bk W mb (mvF m) 34 ∧ Ext M w W,
      ⟨_, 0, (X[n]).2, rfl, by omega, rfl, rfl, hea n hn' (Nat.le_refl _), her, fun j hj h0 => hea j hj (by omega), hli, hpi, hqi, hkm, e2⟩, ?_⟩
    clear hea hli hpi hqi hkm e2 her
    rintro k i w3 ⟨c, L', rfl, hcl, rfl, hLl', hx, her, hea, hli, hpi, hqi, hkm, e3⟩
    have hxl := hx.len
    refine VLd.s m.e (Rd.of_bk hkm rfl) (VIx.rec (r := enR) her.in_.1 hnL rfl fun a1 hr1 => VLd.s (L[n]).2.2.2 (hr1.fld 3 rfl) ?_)
    rw [hLX n hnL hn']
    refine VIf.mk (fun hd => ?_) (fun hd => ?_)
    · have hc' : c < L'.length := by simp at hd; omega
      refine VLd.s m.e (Rd.of_bk hkm rfl) (VIx.rec (r := enR) her.in_.1 hnL rfl fun a1 hr1 => VLd.s (L[n]).2.2.2 (hr1.fld 3 rfl) ?_)
      rw [hLX n hnL hn']
      refine Row.putR (r := intR) (j := 0) (vs := [.int .i64 (-9)]) (x := (-9 : Int)) hx.1 hc' (by show 0 + 1 ≤ 1; omega) rfl rfl (fun a => (add_zero _).symm) fun w4 h4 e4 => ?_
      rw [w64 (n := (c : Int) + 1) (by omega)]
      refine VSet.i ⟨_, (show (X[n]).2.length - (c + 1) < (X[n]).2.length - c by omega), c + 1, _, rfl, by omega, rfl, by rw [List.length_set]; exact hLl', ⟨h4, hx.2⟩, her.ext e4 (her.sepT hx (by decide)), fun j hj h0 => (hea j hj h0).ext e4 (h.es j n hj hn' (by omega)), hli.ext e4 (fun b hb hq => h.el n hn' b hq hb), hpi.ext e4 (hpi.sepT hx (by decide)), hqi.ext e4 (hqi.sepT hx (by decide)), hkm.ext e4 (hx.noB hkm (by decide)), e3.then e4 (fun i hi _ => mx n hn' i hi)⟩
    · refine VLd.s m.e (Rd.of_bk hkm rfl) ?_
      refine Row.putR (r := enR) (j := 2) (vs := [.string (ByteArray.mk #[63])]) (x := ((L[n]).1, (L[n]).2.1, ByteArray.mk #[63], (L[n]).2.2.2)) her.1 hnL (by show 2 + 1 ≤ 4; omega) rfl rfl (fun a => rfl) fun w4 h4 e4 => ?_
      rw [w64 (n := (n : Int) + 1) (by omega)]
      refine VSet.i ⟨_, (show X.length - (n + 1) < X.length - n by omega), n + 1, _, rfl, by omega, rfl, by rw [List.length_set]; exact hLl, ?_, ⟨h4, her.2⟩, fun j hj h0 => (hea j hj h0).ext e4 ((hea j hj h0).sepT her (by decide)), hli.ext e4 (hli.sepT her (by decide)), hpi.ext e4 (hpi.sepT her (by decide)), hqi.ext e4 (hqi.sepT her (by decide)), hkm.ext e4 (her.noB hkm (by decide)), e3.then e4 (fun i hi _ => me i hi)⟩
      intro j hj hj'
      have hj2 : j < L.length := by simpa using hj
      by_cases hjn : n = j
      · subst hjn
        rw [List.getElem_set_self]
        exact hLX n hj2 hj'
      · rw [List.getElem_set_ne hjn]
        exact hLX j hj2 hj'
  · clear her hea
    refine ⟨fun k i W => ∃ (n : Nat) (L : List Int), i = (n : Int) ∧ n ≤ p.L.length ∧ k = p.L.length - n ∧ L.length = p.L.length ∧ OwnR intR 3 w0 W m.l L ∧ OwnR prR 52 w0 W m.p p.P ∧ OwnR lsR 55 w0 W m.q p.Q ∧ Bk W mb (mvF m) 34 ∧ Ext M w W,
      ⟨_, 0, p.L, rfl, by omega, rfl, rfl, hli, hpi, hqi, hkm, e2⟩, ?_⟩
    clear hli hpi hqi hkm e2 hc
    rintro k i w6 ⟨n, L, rfl, hn, rfl, hLl, hli, hpi, hqi, hkm, e6⟩
    have hll := hli.len
    refine VLd.s m.l (Rd.of_bk hkm rfl) (VIf.mk (fun hc => ?_) (fun hc => ?_))
    · have hn' : n < L.length := by simp at hc; omega
      refine VLd.s m.l (Rd.of_bk hkm rfl) ?_
      refine Row.putR (r := intR) (j := 0) (vs := [.int .i64 (-9)]) (x := (-9 : Int)) hli.1 hn' (by show 0 + 1 ≤ 1; omega) rfl rfl (fun a => (add_zero _).symm) fun w7 h7 e7 => ?_
      rw [w64 (n := (n : Int) + 1) (by omega)]
      exact VSet.i ⟨_, (show p.L.length - (n + 1) < p.L.length - n by omega), n + 1, _, rfl, by omega, rfl, by rw [List.length_set]; exact hLl, ⟨h7, hli.2⟩, hpi.ext e7 (hpi.sepT hli (by decide)), hqi.ext e7 (hqi.sepT hli (by decide)), hkm.ext e7 (hli.noB hkm (by decide)), e6.then e7 (fun i hi _ => ml i hi)⟩
    · clear hli
      refine ⟨fun k i W => ∃ (n : Nat) (L : List Pr), i = (n : Int) ∧ n ≤ p.P.length ∧ k = p.P.length - n ∧ L.length = p.P.length ∧ OwnR prR 52 w0 W m.p L ∧ OwnR lsR 55 w0 W m.q p.Q ∧ Bk W mb (mvF m) 34 ∧ Ext M w W,
        ⟨_, 0, p.P, rfl, by omega, rfl, rfl, hpi, hqi, hkm, e6⟩, ?_⟩
      clear hpi hqi hkm e6 hc hll hLl hn
      rintro k i w8 ⟨n, L, rfl, hn, rfl, hLl, hpi, hqi, hkm, e8⟩
      have hll := hpi.len
      refine VLd.s m.p (Rd.of_bk hkm rfl) (VIf.mk (fun hc => ?_) (fun hc => ?_))
      · have hn' : n < L.length := by simp at hc; omega
        refine VLd.s m.p (Rd.of_bk hkm rfl) ?_
        refine Row.putR (r := prR) (j := 0) (vs := [.string (ByteArray.mk #[63])]) (x := (ByteArray.mk #[63], (L[n]).2)) hpi.1 hn' (by show 0 + 1 ≤ 2; omega) rfl rfl (fun a => (add_zero _).symm) fun w9 h9 e9 => ?_
        rw [w64 (n := (n : Int) + 1) (by omega)]
        exact VSet.i ⟨_, (show p.P.length - (n + 1) < p.P.length - n by omega), n + 1, _, rfl, by omega, rfl, by rw [List.length_set]; exact hLl, ⟨h9, hpi.2⟩, hqi.ext e9 (hqi.sepT hpi (by decide)), hkm.ext e9 (hpi.noB hkm (by decide)), e8.then e9 (fun i hi _ => mp i hi)⟩
      · clear hpi
        refine ⟨fun k i W => ∃ (n : Nat) (L : List Ls), i = (n : Int) ∧ n ≤ p.Q.length ∧ k = p.Q.length - n ∧ L.length = p.Q.length ∧ OwnR lsR 55 w0 W m.q L ∧ Bk W mb (mvF m) 34 ∧ Ext M w W,
          ⟨_, 0, p.Q, rfl, by omega, rfl, rfl, hqi, hkm, e8⟩, ?_⟩
        clear hqi hkm e8 hc hll hLl hn
        rintro k i w10 ⟨n, L, rfl, hn, rfl, hLl, hqi, hkm, e10⟩
        have hll := hqi.len
        refine VLd.s m.q (Rd.of_bk hkm rfl) (VIf.mk (fun hc => ?_) (fun hc => ?_))
        · have hn' : n < L.length := by simp at hc; omega
          refine VLd.s m.q (Rd.of_bk hkm rfl) ?_
          refine Row.putR (r := lsR) (j := 1) (vs := [.int .i64 (-9)]) (x := ((L[n]).1, -9, (L[n]).2.2)) hqi.1 hn' (by show 1 + 1 ≤ 5; omega) rfl rfl (fun a => rfl) fun w11 h11 e11 => ?_
          rw [w64 (n := (n : Int) + 1) (by omega)]
          exact VSet.i ⟨_, (show p.Q.length - (n + 1) < p.Q.length - n by omega), n + 1, _, rfl, by omega, rfl, by rw [List.length_set]; exact hLl, ⟨h11, hqi.2⟩, hkm.ext e11 (hqi.noB hkm (by decide)), e10.then e11 (fun i hi _ => mq i hi)⟩
        · exact ⟨rfl, M, hge, e10⟩
end Go.Proofs.Ytodcdfelbphajaa
