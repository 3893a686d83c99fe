/-
  Package parts: PartsTake.
-/
import Derived.Test.YthpbkkjggnejcaaPartsU
namespace Go.Proofs.Ythpbkkjggnejcaa
open Go.RowKit
set_option maxRecDepth 100000

structure Co where
  fr : Int
  nu : Int
  pl : Int
  co : Int
  si : Int
  wh : Int
  raw : Sl
def coC (c : Co) : List Value := [.int .i64 c.fr, .int .i64 c.nu, .int .i64 c.pl, .int .i64 c.co, .int .i64 c.si, .int .u8 c.wh, .slice c.raw.base c.raw.len c.raw.cap]
def coR : Rec Co := ⟨coC, 7, fun _ => rfl, fun _ => rfl, by omega⟩
/-- bytes that were handed in, or are of their own -/
def PkS (w w3 W : World) (s : Sl) (m : List UInt8) : Prop := In w s m ∨ Own w3 W s m
theorem PkS.in_ {w w3 W : World} {s : Sl} {m : List UInt8} (h : PkS w w3 W s m) (e : Ext [] w W) : In W s m := by
  rcases h with h | h
  · exact h.ext0 e
  · exact h.in_
theorem PkS.ext0 {w w3 W W' : World} {s : Sl} {m : List UInt8} (h : PkS w w3 W s m) (e : Ext [] W W') : PkS w w3 W' s m := h.imp id fun h => h.ext0 e
theorem PkS.ext {w w3 W W' : World} {M : List Nat} {s : Sl} {m : List UInt8} (h : PkS w w3 W s m) (e : Ext M W W') (hm : ∀ b ∈ M, ∀ cs, ¬ Bk W b cs 5) : PkS w w3 W' s m := h.imp id fun h => ⟨h.1.ext e fun b hb hi => by
  obtain ⟨_, hz⟩ := h.1.bk_of hb
  exact hm b hi _ hz, h.2⟩
theorem packet_spec (c : Co) (l : List UInt8) (u : UInt8) (w W : World) (h : In w c.raw l) (hu : c.wh = ((u.toNat : Nat) : Int)) (e0 : Ext [] w W) :
    Calls Try.prog 16 #[.agg (coC c).toArray] W fun e w' => ∃ (s : Sl) (m : List UInt8), e = .returned (.slice s.base s.len s.cap) ∧ PkS w W w' s m ∧ m.length ≤ l.length + 100000 ∧ Ext [] W w' := by
  refine sh_butterylaw11_packet_ok _ _ _ _ _ _ _ _ _ ?_
  unfold sh_butterylaw11_packet
  refine VNw.i fun cb w1 hcb hk1 e1 => ?_
  have hk1 : Bk w1 cb (coC c) 46 := hk1
  refine VLd.s c.raw (Rd.of_bk hk1 rfl) (VIf.mk (fun hc => ?_) (fun hc => ?_))
  · exact VLd.s c.raw (Rd.of_bk hk1 rfl) ⟨c.raw, l, rfl, .inl h, by omega, e1⟩
  refine VLd.i1 (t := .int .i64) c.si (Rd.of_bk hk1 rfl) ?_
  obtain ⟨n, hn, hn4⟩ : ∃ n : Nat, IntKind.wrap .i64 (Int.tmod (IntKind.wrap .u64 c.si) 400) = (n : Int) ∧ n < 400 := by
    have h1 : 0 ≤ IntKind.wrap .u64 c.si := by rw [w64u]; omega
    have h2 : Int.tmod (IntKind.wrap .u64 c.si) 400 = (IntKind.wrap .u64 c.si) % 400 := Int.tmod_eq_emod_of_nonneg h1
    rw [h2, w64 (by omega)]
    exact ⟨((IntKind.wrap .u64 c.si) % 400).toNat, by omega, by omega⟩
  rw [hn]
  refine VMk.i (by omega) (by omega) (by omega) (by omega) fun b w2 hb hk2 e2 => ?_
  rw [Int.toNat_natCast] at hk2 ⊢
  rw [made8] at hk2
  have ho2 : Own w1 w2 ⟨some ⟨b, 0, none⟩, n, n⟩ (List.replicate n 0) := Own.built hk2 (by omega) (by rw [List.length_replicate]) (by omega)
  refine ⟨fun k i W' => ∃ (m : Nat) (q : List UInt8), i = (m : Int) ∧ m ≤ n ∧ k = n - m ∧ q.length = n ∧ Own w1 W' ⟨some ⟨b, 0, none⟩, n, n⟩ q ∧ Bk W' cb (coC c) 46 ∧ Ext [] W W', ⟨_, 0, _, rfl, by omega, rfl, by rw [List.length_replicate], ho2, hk1.ext e2, e1.then0 e2⟩, ?_⟩
  rintro k i w3 ⟨m, q, rfl, hm, rfl, hq, ho3, hk3, e3⟩
  refine VIf.mk (fun hd => ?_) (fun hd => ?_)
  · have hm' : m < n := by simp at hd; omega
    refine VLd.i1 (t := .int .u8) c.wh (Rd.of_bk hk3 rfl) ?_
    rw [hu]
    refine Row.put (s := ⟨some ⟨b, 0, none⟩, n, n⟩) (v := u) ho3.1 hm' fun w4 h4 e4 => ?_
    have hbr : rowB ⟨some ⟨b, 0, none⟩, n, n⟩ = [b] := rfl
    rw [hbr] at e4
    have hcb4 : cb ∉ [b] := by have := hk1.lt; simp; omega
    rw [w64 (n := (m : Int) + 1) (by omega)]
    have z1 := e1.size
    exact VSet.i ⟨_, (show n - (m + 1) < n - m by omega), m + 1, _, rfl, by omega, rfl, by rw [List.length_set]; exact hq, ⟨h4, ho3.2⟩, hk3.ext e4 hcb4, e3.then e4 (fun i hi hlt => by simp at hi; omega)⟩
  · refine VLd.i1 (t := .int .i64) c.nu (Rd.of_bk hk3 rfl) (VLd.i1 (t := .int .i64) c.pl (Rd.of_bk hk3 rfl) (VLd.i1 (t := .int .i64) c.co (Rd.of_bk hk3 rfl) ?_))
    refine VStr.i q ho3.seg fun x hx => ?_
    have hxs : x.size = n := by rw [ba_size, hx, hq]
    refine VCall.i (Packet_spec c.nu c.pl c.co x w3 (by omega)) ?_
    rintro e w5 ⟨s, rfl, ho, e5⟩
    have z3 := e3.size
    refine exW.i1 (t := .sl) s rfl ⟨s, _, rfl, .inr (ho.mono z3), ?_, e3.then0 e5⟩
    have hpl : (pkt c.nu c.pl c.co x.data.toList).length ≤ 1000 := by
      unfold pkt
      rw [frame_len]
      have := bodyP_len c.nu c.pl c.co (d := x.data.toList) (by rw [← ba_size]; omega)
      rw [← ba_size] at this
      omega
    omega
/-- what a message was told in is written over -/
theorem OutR.fill {w1 w : World} {t : Sl} {l : List UInt8} (h : OutR w1 w t l) (hl : l.length ≤ 100000) {rest : World → Prop} (k : ∀ w' M, Ext M w w' → (∀ b ∈ M, w1.heap.size ≤ b ∧ ∃ cs, Bk w b cs 5) → rest w') :
    ∃ I1 : Nat → Int → World → Prop, (∃ k, I1 k 0 w) ∧ ∀ k1 (i : Int) (w1 : World), I1 k1 i w1 → VIf (decide (i < ((t.len : Nat) : Int)))
      (VIx none t.base t.len i fun (a : Addr) => VSt none w1 (Addr.add a ((Int.toNat i) * 1)) [.int .u8 7] fun (w2 : World) => VSet (IntKind.wrap .i64 (i + 1)) fun (i' : Int) => ∃ k', k' < k1 ∧ I1 k' i' w2) (rest w1) := by
  obtain ⟨h1, h2⟩ := h
  rcases h2 with ⟨h2, h3⟩ | ⟨b, rs, h2, h3, h4⟩
  · have h0 : t.len = 0 := by rw [h1, h3]; rfl
    refine ⟨fun k i W => i = 0 ∧ W = w, ⟨0, rfl, rfl⟩, ?_⟩
    rintro k1 i W ⟨rfl, rfl⟩
    exact VIf.f (by rw [h0]; rfl) (k _ [] (Ext.refl _ _) (by simp))
  · refine ⟨fun k i W => ∃ (j : Nat) (cs : List Value), i = (j : Int) ∧ j ≤ t.len ∧ k = t.len - j ∧ t.len ≤ cs.length ∧ Bk W b cs 5 ∧ Ext [b] w W, ⟨_, 0, _, rfl, by omega, rfl, by rw [List.length_append, bc_len]; omega, h3, Ext.refl _ _⟩, ?_⟩
    rintro k1 i W ⟨j, cs, rfl, hj, rfl, hcs, hk, e⟩
    refine VIf.mk (fun hd => ?_) (fun hd => k W [b] e (fun b' hb' => by simp at hb'; subst hb'; exact ⟨h4, _, h3⟩))
    have hj' : j < t.len := by simpa using hd
    rw [h2]
    refine VIx.i (by omega) (by omega) ?_
    have ha : Addr.add ⟨b, 0, none⟩ ((Int.toNat (j : Int)) * 1) = ⟨b, j, none⟩ := by
      simp [Addr.add]
      try (intro h; omega)
    rw [ha]
    refine VSt.bk hk rfl (by simp; omega) fun W2 hk2 e2 => ?_
    rw [w64 (n := (j : Int) + 1) (by omega)]
    refine VSet.i ⟨_, (show t.len - (j + 1) < t.len - j by omega), j + 1, _, rfl, by omega, rfl, ?_, hk2, e.then e2 (fun i hi _ => hi)⟩
    simp only [List.length_append, List.length_take, List.length_drop, List.length_cons, List.length_nil]
    omega
/-- both joiners, of which neither is the other -/
def Both (w W : World) (jb xb : Nat) (A : Ab) : Prop := ∃ K mb os F K2 rs, JR w W jb K mb os F ∧ XR w W xb K2 rs ∧ absE K = A ∧ absX K2 = A ∧ ∀ b ∈ jbs jb K mb os, b ∉ xbs xb K2 rs
theorem Both.ext {w W W' : World} {jb xb : Nat} {A : Ab} {M : List Nat} (h : Both w W jb xb A) (e : Ext M W W') (hM : ∀ b ∈ M, ∃ cs, Bk W b cs 5) : Both w W' jb xb A := by
  obtain ⟨K, mb, os, F, K2, rs, hJ, hX, h1, h2, h3⟩ := h
  refine ⟨K, mb, os, F, K2, rs, hJ.ext e fun b hb hm => ?_, hX.ext e fun b hb hm => ?_, h1, h2, h3⟩
  · obtain ⟨cs, hk⟩ := hM b hm
    exact absurd (hJ.ty hb hk) (by decide)
  · obtain ⟨cs, hk⟩ := hM b hm
    exact hX.neT hk (by decide) (by decide) (by decide) (by decide) hb
theorem Both.ext0 {w W W' : World} {jb xb : Nat} {A : Ab} (h : Both w W jb xb A) (e : Ext [] W W') : Both w W' jb xb A := h.ext e (by simp)
set_option maxHeartbeats 2000000 in
theorem PartsTake_law (l : Sl) (L : List Co) (w : World) (h : InR coR w l L) (hP : ∀ c ∈ L, ∃ (r : List UInt8) (u : UInt8), In w c.raw r ∧ c.wh = ((u.toNat : Nat) : Int) ∧ r.length ≤ 1048576) :
    Calls Try.prog 5 #[.slice l.base l.len l.cap] w fun e w' => e = .returned (.bool true) ∧ Ext [] w w' := by
  refine sh_butterylaw11_PartsTake_ok _ _ _ ?_
  unfold sh_butterylaw11_PartsTake
  have hl := h.1.rlen
  refine VIf.mk (fun hc => ⟨rfl, Ext.refl _ _⟩) (fun hc => ?_)
  have hc : L.length ≤ 300 := by rw [hl] at hc; simp at hc; omega
  refine VCall.i (New_spec w) ?_
  rintro e w1 ⟨jb, rfl, ⟨K0, mb0, os0, F0, hJ1, hA0⟩, e1⟩
  refine exW.i1 (t := .ptr) (some ⟨jb, 0, none⟩) rfl ?_
  refine VNw.i fun xb w2 hxb hk2 e2 => ?_
  have hk2 : Bk w2 xb [.slice (none : Option Addr) 0 0] 43 := hk2
  have z1 := e1.size
  have hB2 : Both w w2 jb xb [] := by
    refine ⟨K0, mb0, os0, F0, [], ⟨none, 0, 0⟩, hJ1.ext0 e2, ⟨hk2, OwnR.nil _ _ _ _, List.nodup_nil, by simp, by simp, by simp, by omega, by simp, by simp, by simp⟩, hA0, rfl, fun b hb hx => ?_⟩
    have := (hJ1.old b hb).2
    rcases xbs_mem.1 hx with rfl | hx | ⟨k, hk, _⟩
    · omega
    · simp [rowB] at hx
    · simp at hk
  refine ⟨fun k i W => ∃ (m : Nat) (A : Ab), i = (m : Int) ∧ m ≤ L.length ∧ k = L.length - m ∧ Both w W jb xb A ∧ Ext [] w W, ⟨_, 0, [], rfl, by omega, rfl, hB2, e1.then0 e2⟩, ?_⟩
  rintro k i w3 ⟨m, A, rfl, hm, rfl, hB3, e3⟩
  refine VIf.mk (fun hd => ?_) (fun hd => ⟨rfl, e3⟩)
  have hm' : m < L.length := by rw [hl] at hd; simp at hd; omega
  obtain ⟨c, hcm⟩ : ∃ c, c = L[m] := ⟨_, rfl⟩
  obtain ⟨r, u, hr0, hu, hr1⟩ := hP c (by rw [hcm]; exact List.getElem_mem hm')
  have hix : ∀ {W : World} {K : Addr → Prop}, Ext [] w W → (∀ a, Rd W (a.add (m * 7)) (coC c) → K a) → VIx none l.base l.len (m : Int) K := fun e k => by
    refine VIx.i' (r := coR) (h.1.ext0 e) hm' fun a hr => k a ?_
    rw [hcm]
    exact hr
  refine hix e3 fun a hra => ⟨c.fr, c.nu, c.pl, c.co, c.si, c.wh, c.raw, hra, ?_⟩
  refine VCall.i (packet_spec c r u w w3 hr0 hu e3) ?_
  rintro e w4 ⟨p, q, rfl, hp4, hql, e4⟩
  refine exW.i1 (t := .sl) p rfl ?_
  have e04 := e3.then0 e4
  refine VNw.i fun b5 w5 hb5 hk5 e5 => ?_
  have hk5 : Bk w5 b5 [] 5 := hk5
  refine VApp.clone hb5 hk5 e5 (hp4.in_ e04).1 (by omega) fun t w6 ht6 e46 => ?_
  have e06 := e04.then0 e46
  have hp6 := hp4.ext0 e46
  have hB6 := (hB3.ext0 e4).ext0 e46
  refine hix e06 fun a hra => VLd.i1 (t := .int .i64) c.fr (hra.fld0 rfl) ?_
  obtain ⟨K, mb, os, F, K2, rs, hJ6, hX6, hA, hA2, hdis⟩ := hB6
  refine VCall.i (Take_spec c.fr t q hJ6 ht6.in_) ?_
  rintro e w7 ⟨o, K', rfl, hA', ho7, os', F', hJ7, e67, hin7⟩
  refine exW.i3 (t := .sl) (u := .bool) (v := .int .i64) o _ _ rfl (VSet.i ?_)
  have hJty : ∀ b ∈ jbs jb K mb os, ∀ cs, ¬ Bk w6 b cs 5 := fun b hb cs hk => absurd (hJ6.ty hb hk) (by decide)
  have hX7 := hX6.ext e67 fun b hb hm => hdis b hm hb
  have hp7 := hp6.ext e67 hJty
  have ht7 : Own w4 w7 t q := ⟨ht6.1.ext e67 fun b hb hi => by
    obtain ⟨_, hz⟩ := ht6.1.bk_of hb
    exact hJty b hi _ hz, ht6.2⟩
  have z6 := e06.size
  have e07 : Ext [] w w7 := e06.then e67 (fun i hi hlt => by have := (hJ6.old i hi).1; omega)
  have hdis7 : ∀ b ∈ jbs jb K' mb os', b ∉ xbs xb K2 rs := fun b hb hx => by
    rcases hin7 b hb with h' | h'
    · exact hdis b h' hx
    · have := (hX6.old b hx).2; omega
  refine hix e07 fun a hra => VLd.i1 (t := .int .i64) c.fr (hra.fld0 rfl) ?_
  refine VCall.i (xTake_spec c.fr p q hX7 (hp7.in_ e07)) ?_
  rintro e w8 ⟨x, K2', rfl, hx, hxl, hA2', rs', hX8, e78, hin8⟩
  refine exW.i3 (t := .str) (u := .bool) (v := .int .i64) x _ _ rfl (VSet.i ?_)
  have hXty : ∀ b ∈ xbs xb K2 rs, ∀ cs, ¬ Bk w7 b cs 5 := fun b hb cs hk => hX7.neT hk (by decide) (by decide) (by decide) (by decide) hb
  have hJ8 := hJ7.ext e78 fun b hb hx => hdis7 b hb hx
  have hp8 := hp7.ext e78 hXty
  have ht8 : Own w4 w8 t q := ⟨ht7.1.ext e78 fun b hb hi => by
    obtain ⟨_, hz⟩ := ht7.1.bk_of hb
    exact hXty b hi _ hz, ht7.2⟩
  have ho8 : OutR w6 w8 o (takeP (absE K) c.fr q).2.1 := by
    obtain ⟨g1, g2⟩ := ho7
    refine ⟨g1, g2.imp id ?_⟩
    rintro ⟨b, rest, hb, hk, hw⟩
    exact ⟨b, rest, hb, hk.ext e78 (fun hi => hXty b hi _ hk), hw⟩
  have z7 := e07.size
  have e08 : Ext [] w w8 := e07.then e78 (fun i hi hlt => by have := (hX7.old i hi).1; omega)
  have hdis8 : ∀ b ∈ jbs jb K' mb os', b ∉ xbs xb K2' rs' := fun b hb hx => by
    rcases hin8 b hx with h' | h'
    · exact hdis7 b hb h'
    · have := (hJ7.old b hb).2; omega
  rw [hA] at hA' ho8 ⊢
  rw [hA2] at hx hA2' ⊢
  have hB8 : Both w w8 jb xb (takeP A c.fr q).1 := ⟨K', mb, os', F', K2', rs', hJ8, hX8, hA', hA2', hdis8⟩
  intro w9 hw9
  have ed := Ext.drew' hw9
  have hB9 := hB8.ext0 ed
  have hp9 := hp8.ext0 ed
  have ht9 := ht8.ext0 ed
  have ho9 := ho8.ext0 ed
  have e09 := e08.then0 ed
  have hX9 := hX8.ext0 ed
  have hJ9 : JAt w w9 jb (takeP A c.fr q).1 := ⟨K', mb, os', F', hJ8.ext0 ed, hA'⟩
  refine VStr.i _ ho9.seg fun y hy => ?_
  have hyx : (!(y.toList == x.toList)) = false := by rw [strEq, hy, hx]; simp
  have hgd : (!(((!(y.toList == x.toList)) || (!((takeP A c.fr q).2.2.1 == (takeP A c.fr q).2.2.1))) || ((takeP A c.fr q).2.2.2 != (takeP A c.fr q).2.2.2))) = true := by rw [hyx]; simp
  refine VNN.i (VLd.s rs' (Rd.of_bk hX9.x rfl) ?_)
  refine hJ9.len (.inr (congrArg some hgd)) ⟨fun _ => Rd.of_bk hX9.x rfl, ?_⟩
  refine VStr.i _ ht9.seg fun y1 hy1 => VStr.i _ (hp9.in_ e09).1 fun y2 hy2 => ?_
  have hlen : rs'.len = (takeP A c.fr q).1.length := by rw [hX9.o.len, ← hA2']; unfold absX; rw [List.length_map]
  refine VIf.f ?_ ?_
  · rw [hyx, strEq, hy1, hy2, hlen]
    simp
  have hql2 : (takeP A c.fr q).2.1.length ≤ 100000 := by rw [← hx, ← ba_size]; omega
  refine Own.fill (w0 := w) (v := 7) rfl (ht9.mono e04.size) (fun w11 l' ht11 hl' e911 e011 => ?_) e09
  have hU : ∀ b ∈ rowB t, ∃ cs, Bk w9 b cs 5 := fun b hb => ht9.1.bk_of hb
  have hB11 := hB9.ext e911 hU
  have ho11 : OutR w6 w11 o (takeP A c.fr q).2.1 := by
    obtain ⟨g1, g2⟩ := ho9
    refine ⟨g1, g2.imp id ?_⟩
    rintro ⟨b, rest, hb, hk, hw⟩
    exact ⟨b, rest, hb, hk.ext e911 (fun hi => by have := ht6.lt b hi; omega), hw⟩
  refine OutR.fill ho11 hql2 fun w13 M eM hM => ?_
  rw [w64 (n := (m : Int) + 1) (by omega)]
  exact VSet.i ⟨_, (show L.length - (m + 1) < L.length - m by omega), m + 1, _, rfl, by omega, rfl, hB11.ext eM (fun b hb => (hM b hb).2), e011.then eM (fun i hi hlt => by have := (hM i hi).1; omega)⟩
end Go.Proofs.Ythpbkkjggnejcaa
