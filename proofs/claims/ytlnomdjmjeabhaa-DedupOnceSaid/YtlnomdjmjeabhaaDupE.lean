/-
  Package dedup: put, at pairs and at last writes (printed by gen_e.py).
-/
import Derived.Test.YtlnomdjmjeabhaaDupD
namespace Go.Proofs.Ytlnomdjmjeabhaa
open Go.RowKit
set_option maxRecDepth 100000

theorem gt_str (a b : ByteArray) : (!(Op.bytesLess a.toList b.toList || (a.toList == b.toList))) = gtB a b := by
  unfold gtB
  rw [ba_beq]
  by_cases h : a = b
  · subst h; simp [lt_irr]
  · rw [decide_eq_false h, Bool.or_false]
    show (!ltB a b) = ltB b a
    cases h2 : ltB a b with
    | true => rw [lt_asym h2]; rfl
    | false => rw [lt_of h2 h]; rfl
theorem int_beq (a b : Int) : (a == b) = decide (a = b) := by rw [Bool.eq_iff_iff]; simp

theorem keyP_spec (x : Pr) (w : World) : Calls Try.prog 34 #[.agg #[.string x.1, .string x.2]] w fun e w' => e = .returned (.string (prK x)) ∧ Ext [] w w' := by
  refine sh_dedup_pair_ok _ _ _ _ ?_
  unfold sh_dedup_pair
  refine VNw.i fun b w1 hb h1 e1 => VLd.i1 (t := .str) (prK x) (Rd.of_bk h1 rfl) ⟨rfl, e1⟩
theorem eqP_spec (y : Pr) (c : ByteArray) (kb cb : Nat) (t1 t2 : TypeId) (w : World) (hk : Bk w kb [.func (.func 34) #[] #[]] t1) (hc : Bk w cb [.string c] t2) :
    Calls Try.prog 41 #[.agg #[.string y.1, .string y.2], .pointer (some ⟨kb, 0, none⟩), .pointer (some ⟨cb, 0, none⟩)] w fun e w' => e = .returned (.bool (decide (prK y = c))) ∧ Ext [] w w' := by
  refine sh_dedup_put''_ok _ _ _ _ _ _ ?_
  unfold sh_dedup_put''
  refine VNw.i fun b w1 hb h1 e1 => ?_
  intro w2 hw2
  have e2 := Ext.drew' hw2
  have e02 := e1.then0 e2
  refine VLd.i1 (t := .any) (.func (.func 34) #[] #[]) (Rd.of_bk (hk.ext e02) rfl) ⟨y.1, y.2, gd.i (Rd.of_bk (h1.ext e2) rfl), VLd.i1 (t := .str) c (Rd.of_bk (hc.ext e02) rfl) ?_⟩
  refine VDyn.i (by kernel_rfl) (VCall.i (keyP_spec y w2) ?_)
  rintro e w3 ⟨rfl, e3⟩
  refine ⟨prK y, rfl, Rd.of_bk ((hc.ext e02).ext e3) rfl, ?_, e02.then0 e3⟩
  rw [ba_beq]
theorem gtP_spec (y : Pr) (c : ByteArray) (kb cb : Nat) (t1 t2 : TypeId) (w : World) (hk : Bk w kb [.func (.func 34) #[] #[]] t1) (hc : Bk w cb [.string c] t2) :
    Calls Try.prog 42 #[.agg #[.string y.1, .string y.2], .pointer (some ⟨kb, 0, none⟩), .pointer (some ⟨cb, 0, none⟩)] w fun e w' => e = .returned (.bool (gtB (prK y) c)) ∧ Ext [] w w' := by
  refine sh_dedup_put'''_ok _ _ _ _ _ _ ?_
  unfold sh_dedup_put'''
  refine VNw.i fun b w1 hb h1 e1 => ?_
  intro w2 hw2
  have e2 := Ext.drew' hw2
  have e02 := e1.then0 e2
  refine VLd.i1 (t := .any) (.func (.func 34) #[] #[]) (Rd.of_bk (hk.ext e02) rfl) ⟨y.1, y.2, gd.i (Rd.of_bk (h1.ext e2) rfl), VLd.i1 (t := .str) c (Rd.of_bk (hc.ext e02) rfl) ?_⟩
  refine VDyn.i (by kernel_rfl) (VCall.i (keyP_spec y w2) ?_)
  rintro e w3 ⟨rfl, e3⟩
  refine ⟨prK y, rfl, Rd.of_bk ((hc.ext e02).ext e3) rfl, by rw [gt_str], e02.then0 e3⟩
theorem dynEqP {c : ByteArray} {kb cb : Nat} {t1 t2 : TypeId} {w : World} (hk : Bk w kb [.func (.func 34) #[] #[]] t1) (hc : Bk w cb [.string c] t2) :
    DynP [] w (.func (.func 41) #[] #[.pointer (some ⟨kb, 0, none⟩), .pointer (some ⟨cb, 0, none⟩)]) (fun y => decide (prK y = c)) :=
  ⟨_, _, _, rfl, by kernel_rfl, fun x W e => eqP_spec x c kb cb t1 t2 W (hk.ext e) (hc.ext e)⟩
theorem dynGtP {c : ByteArray} {kb cb : Nat} {t1 t2 : TypeId} {w : World} (hk : Bk w kb [.func (.func 34) #[] #[]] t1) (hc : Bk w cb [.string c] t2) :
    DynP [] w (.func (.func 42) #[] #[.pointer (some ⟨kb, 0, none⟩), .pointer (some ⟨cb, 0, none⟩)]) (fun y => gtB (prK y) c) :=
  ⟨_, _, _, rfl, by kernel_rfl, fun x W e => gtP_spec x c kb cb t1 t2 W (hk.ext e) (hc.ext e)⟩
theorem putP_spec (l : Sl) (L : List Pr) (x : Pr) (w : World) (h : InR prR w l L) (hb : (L.length + 1) * 32 ≤ 140737488355328) :
    Calls Try.prog 33 #[.slice l.base l.len l.cap, .agg #[.string x.1, .string x.2], .func (.func 34) #[] #[]] w fun e w' => ∃ s' : Sl, e = .returned (.slice s'.base s'.len s'.cap) ∧ OwnR prR 36 w w' s' (putL prK gtB L x) ∧ Ext [] w w' := by
  refine sh_dedup_put_ok _ _ _ _ _ _ ?_
  unfold sh_dedup_put
  refine VNw.i fun xb w1 hxb hx1 e1 => VNw.i fun kb w2 hkb hk2 e2 => ?_
  have hk2 : Bk w2 kb [.func (.func 34) #[] #[]] _ := hk2
  have e02 := e1.then0 e2
  have z2 := e02.size
  refine VCall.i (CloneP_spec l L w2 (h.ext0 e02) (by omega)) ?_
  rintro e w3 ⟨s, rfl, ho, e3⟩
  refine ⟨s, rfl, ?_⟩
  have hk3 := hk2.ext e3
  have hx3 := (hx1.ext e2).ext e3
  have e03 := e02.then0 e3
  refine VLd.i1 (t := .any) (.func (.func 34) #[] #[]) (Rd.of_bk hk3 rfl) ⟨x.1, x.2, gd.i (Rd.of_bk hx3 rfl), ?_⟩
  refine VDyn.i (by kernel_rfl) (VCall.i (keyP_spec x w3) ?_)
  rintro e w4 ⟨rfl, e4⟩
  refine ⟨prK x, rfl, ?_⟩
  refine VNw.i fun cb w5 hcb hc5 e5 => VSt.bk hc5 rfl (by simp) fun w6 hc6 e6 => ?_
  have hc6 : Bk w6 cb [.string (prK x)] _ := hc6
  have z3 := e03.size
  have z4 := e4.size
  have e36 : Ext [] w3 w6 := (e4.then0 e5).then e6 (fun i hi hlt => by simp at hi; omega)
  have e06 := e03.then0 e36
  have hk6 := hk3.ext e36
  have hx6 := hx3.ext e36
  have ho6 : OwnR prR 36 w w6 s L := (ho.ext0 e36).mono z2
  refine VCall.i (IndexP_spec s L _ _ [] w6 ho6.in_ (dynEqP hk6 hc6)) ?_
  rintro e w7 ⟨rfl, e7⟩
  refine ⟨_, rfl, VSet.i ?_⟩
  have e07 := e06.then0 e7
  have ho7 := ho6.ext0 e7
  have hx7 := hx6.ext e7
  cases hf : L.findIdx? (fun y => decide (prK y = prK x)) with
  | some i =>
    have hidx : idxI (fun y => decide (prK y = prK x)) L = (i : Int) := by unfold idxI; rw [hf]
    have hi : i < L.length := (List.findIdx?_eq_some_iff_getElem.1 hf).1
    rw [hidx]
    refine VIf.t (by simp) ⟨x.1, x.2, gd.i (Rd.of_bk hx7 rfl), ?_⟩
    refine Row.putR (r := prR) (g := none) (j := 0) (x := x) (ad := fun a => Addr.add a ((Int.toNat (i : Int)) * 2)) ho7.1 hi (by show 0 + 2 ≤ 2; omega) rfl rfl (fun a => by rw [add_zero, Int.toNat_natCast]; rfl) fun w8 h8 e8 => ?_
    refine ⟨s, rfl, ⟨?_, ho7.2⟩, e07.then e8 (fun b hb hlt => absurd hlt (Nat.not_lt.2 (ho7.2 b hb)))⟩
    have hp : putL prK gtB L x = L.set i x := by unfold putL; rw [hf]
    rw [hp]; exact h8
  | none =>
    have hidx : idxI (fun y => decide (prK y = prK x)) L = -1 := by unfold idxI; rw [hf]
    rw [hidx]
    refine VIf.f (by simp) ?_
    refine VCall.i (IndexP_spec s L _ _ [] w7 ho7.in_ (dynGtP (hk6.ext e7) (hc6.ext e7))) ?_
    rintro e w9 ⟨rfl, e9⟩
    refine ⟨_, rfl, VSet.i ?_⟩
    have e09 := e07.then0 e9
    have ho9 := ho7.ext0 e9
    have hx9 := hx7.ext e9
    have hsl := ho9.len
    obtain ⟨j, hj, hjp, hjj⟩ : ∃ j : Nat, j ≤ L.length ∧ putL prK gtB L x = L.take j ++ x :: L.drop j ∧ (if idxI (fun y => gtB (prK y) (prK x)) L < 0 then (L.length : Int) else idxI (fun y => gtB (prK y) (prK x)) L) = (j : Int) := by
      unfold putL idxI
      rw [hf]
      cases hg : L.findIdx? (fun y => gtB (prK y) (prK x)) with
      | some j => exact ⟨j, Nat.le_of_lt (List.findIdx?_eq_some_iff_getElem.1 hg).1, rfl, by simp only; rw [if_neg (by omega)]⟩
      | none => exact ⟨L.length, Nat.le_refl _, by simp, by simp⟩
    refine ⟨fun i W => i = (j : Int) ∧ W = w9, ?_, ?_⟩
    · refine VIf.mk (fun hc => VSet.i ⟨?_, rfl⟩) (fun hc => ⟨?_, rfl⟩)
      · rw [if_pos (by simpa using hc)] at hjj; rw [hsl]; exact hjj
      · rw [if_neg (by simpa using hc)] at hjj; exact hjj
    · rintro i W ⟨rfl, rfl⟩
      refine ⟨x.1, x.2, gd.i (Rd.of_bk hx9 rfl), VNw.i0 fun vb w11 hvb hv e11 => ?_⟩
      have hv : New0 w11 vb (prR.f x) _ := hv
      have hne : vb ∉ rowB s := fun hm => by have := ho9.1.lt vb hm; omega
      refine VCall.i (InsertP_spec s L j vb x _ w w11 (ho9.ext0 e11) (e09.then0 e11) hj hv hne hb) ?_
      rintro e w12 ⟨s', rfl, ho12, e12⟩
      refine ⟨s', rfl, s', rfl, ?_, e12⟩
      rw [hjp]; exact ho12

theorem keyL_spec (x : Ls) (w : World) : Calls Try.prog 39 #[.agg #[.int .i64 x.1, .int .i64 x.2.1, .int .u8 x.2.2.1, .bool x.2.2.2.1, .string x.2.2.2.2]] w fun e w' => e = .returned (.int .i64 (lsK x)) ∧ Ext [] w w' := by
  refine sh_dedup_client_ok _ _ _ _ _ _ _ ?_
  unfold sh_dedup_client
  refine VNw.i fun b w1 hb h1 e1 => VLd.i1 (t := (.int .i64)) (lsK x) (Rd.of_bk h1 rfl) (VSet.i ⟨rfl, e1⟩)
theorem eqL_spec (y : Ls) (c : Int) (kb cb : Nat) (t1 t2 : TypeId) (w : World) (hk : Bk w kb [.func (.func 39) #[] #[]] t1) (hc : Bk w cb [.int .i64 c] t2) :
    Calls Try.prog 44 #[.agg #[.int .i64 y.1, .int .i64 y.2.1, .int .u8 y.2.2.1, .bool y.2.2.2.1, .string y.2.2.2.2], .pointer (some ⟨kb, 0, none⟩), .pointer (some ⟨cb, 0, none⟩)] w fun e w' => e = .returned (.bool (decide (lsK y = c))) ∧ Ext [] w w' := by
  refine sh_dedup_put''''_ok _ _ _ _ _ _ _ _ _ ?_
  unfold sh_dedup_put''''
  refine VNw.i fun b w1 hb h1 e1 => ?_
  intro w2 hw2
  have e2 := Ext.drew' hw2
  have e02 := e1.then0 e2
  refine VLd.i1 (t := .any) (.func (.func 39) #[] #[]) (Rd.of_bk (hk.ext e02) rfl) ⟨y.1, y.2.1, y.2.2.1, y.2.2.2.1, y.2.2.2.2, gd.i (Rd.of_bk (h1.ext e2) rfl), VLd.i1 (t := (.int .i64)) c (Rd.of_bk (hc.ext e02) rfl) ?_⟩
  refine VDyn.i (by kernel_rfl) (VCall.i (keyL_spec y w2) ?_)
  rintro e w3 ⟨rfl, e3⟩
  refine ⟨lsK y, rfl, Rd.of_bk ((hc.ext e02).ext e3) rfl, ?_, e02.then0 e3⟩
  rw [int_beq]
theorem gtL_spec (y : Ls) (c : Int) (kb cb : Nat) (t1 t2 : TypeId) (w : World) (hk : Bk w kb [.func (.func 39) #[] #[]] t1) (hc : Bk w cb [.int .i64 c] t2) :
    Calls Try.prog 45 #[.agg #[.int .i64 y.1, .int .i64 y.2.1, .int .u8 y.2.2.1, .bool y.2.2.2.1, .string y.2.2.2.2], .pointer (some ⟨kb, 0, none⟩), .pointer (some ⟨cb, 0, none⟩)] w fun e w' => e = .returned (.bool (gtI (lsK y) c)) ∧ Ext [] w w' := by
  refine sh_dedup_put'''''_ok _ _ _ _ _ _ _ _ _ ?_
  unfold sh_dedup_put'''''
  refine VNw.i fun b w1 hb h1 e1 => ?_
  intro w2 hw2
  have e2 := Ext.drew' hw2
  have e02 := e1.then0 e2
  refine VLd.i1 (t := .any) (.func (.func 39) #[] #[]) (Rd.of_bk (hk.ext e02) rfl) ⟨y.1, y.2.1, y.2.2.1, y.2.2.2.1, y.2.2.2.2, gd.i (Rd.of_bk (h1.ext e2) rfl), VLd.i1 (t := (.int .i64)) c (Rd.of_bk (hc.ext e02) rfl) ?_⟩
  refine VDyn.i (by kernel_rfl) (VCall.i (keyL_spec y w2) ?_)
  rintro e w3 ⟨rfl, e3⟩
  refine ⟨lsK y, rfl, Rd.of_bk ((hc.ext e02).ext e3) rfl, rfl, e02.then0 e3⟩
theorem dynEqL {c : Int} {kb cb : Nat} {t1 t2 : TypeId} {w : World} (hk : Bk w kb [.func (.func 39) #[] #[]] t1) (hc : Bk w cb [.int .i64 c] t2) :
    DynL [] w (.func (.func 44) #[] #[.pointer (some ⟨kb, 0, none⟩), .pointer (some ⟨cb, 0, none⟩)]) (fun y => decide (lsK y = c)) :=
  ⟨_, _, _, rfl, by kernel_rfl, fun x W e => eqL_spec x c kb cb t1 t2 W (hk.ext e) (hc.ext e)⟩
theorem dynGtL {c : Int} {kb cb : Nat} {t1 t2 : TypeId} {w : World} (hk : Bk w kb [.func (.func 39) #[] #[]] t1) (hc : Bk w cb [.int .i64 c] t2) :
    DynL [] w (.func (.func 45) #[] #[.pointer (some ⟨kb, 0, none⟩), .pointer (some ⟨cb, 0, none⟩)]) (fun y => gtI (lsK y) c) :=
  ⟨_, _, _, rfl, by kernel_rfl, fun x W e => gtL_spec x c kb cb t1 t2 W (hk.ext e) (hc.ext e)⟩
theorem putL_spec (l : Sl) (L : List Ls) (x : Ls) (w : World) (h : InR lsR w l L) (hb : (L.length + 1) * 40 ≤ 140737488355328) :
    Calls Try.prog 38 #[.slice l.base l.len l.cap, .agg #[.int .i64 x.1, .int .i64 x.2.1, .int .u8 x.2.2.1, .bool x.2.2.2.1, .string x.2.2.2.2], .func (.func 39) #[] #[]] w fun e w' => ∃ s' : Sl, e = .returned (.slice s'.base s'.len s'.cap) ∧ OwnR lsR 42 w w' s' (putL lsK gtI L x) ∧ Ext [] w w' := by
  refine sh_dedup_put'_ok _ _ _ _ _ _ _ _ _ ?_
  unfold sh_dedup_put'
  refine VNw.i fun xb w1 hxb hx1 e1 => VNw.i fun kb w2 hkb hk2 e2 => ?_
  have hk2 : Bk w2 kb [.func (.func 39) #[] #[]] _ := hk2
  have e02 := e1.then0 e2
  have z2 := e02.size
  refine VCall.i (CloneL_spec l L w2 (h.ext0 e02) (by omega)) ?_
  rintro e w3 ⟨s, rfl, ho, e3⟩
  refine ⟨s, rfl, ?_⟩
  have hk3 := hk2.ext e3
  have hx3 := (hx1.ext e2).ext e3
  have e03 := e02.then0 e3
  refine VLd.i1 (t := .any) (.func (.func 39) #[] #[]) (Rd.of_bk hk3 rfl) ⟨x.1, x.2.1, x.2.2.1, x.2.2.2.1, x.2.2.2.2, gd.i (Rd.of_bk hx3 rfl), ?_⟩
  refine VDyn.i (by kernel_rfl) (VCall.i (keyL_spec x w3) ?_)
  rintro e w4 ⟨rfl, e4⟩
  refine ⟨lsK x, rfl, ?_⟩
  refine VNw.i fun cb w5 hcb hc5 e5 => VSt.bk hc5 rfl (by simp) fun w6 hc6 e6 => ?_
  have hc6 : Bk w6 cb [.int .i64 (lsK x)] _ := hc6
  have z3 := e03.size
  have z4 := e4.size
  have e36 : Ext [] w3 w6 := (e4.then0 e5).then e6 (fun i hi hlt => by simp at hi; omega)
  have e06 := e03.then0 e36
  have hk6 := hk3.ext e36
  have hx6 := hx3.ext e36
  have ho6 : OwnR lsR 42 w w6 s L := (ho.ext0 e36).mono z2
  refine VCall.i (IndexL_spec s L _ _ [] w6 ho6.in_ (dynEqL hk6 hc6)) ?_
  rintro e w7 ⟨rfl, e7⟩
  refine ⟨_, rfl, VSet.i ?_⟩
  have e07 := e06.then0 e7
  have ho7 := ho6.ext0 e7
  have hx7 := hx6.ext e7
  cases hf : L.findIdx? (fun y => decide (lsK y = lsK x)) with
  | some i =>
    have hidx : idxI (fun y => decide (lsK y = lsK x)) L = (i : Int) := by unfold idxI; rw [hf]
    have hi : i < L.length := (List.findIdx?_eq_some_iff_getElem.1 hf).1
    rw [hidx]
    refine VIf.t (by simp) ⟨x.1, x.2.1, x.2.2.1, x.2.2.2.1, x.2.2.2.2, gd.i (Rd.of_bk hx7 rfl), ?_⟩
    refine Row.putR (r := lsR) (g := none) (j := 0) (x := x) (ad := fun a => Addr.add a ((Int.toNat (i : Int)) * 5)) ho7.1 hi (by show 0 + 5 ≤ 5; omega) rfl rfl (fun a => by rw [add_zero, Int.toNat_natCast]; rfl) fun w8 h8 e8 => ?_
    refine ⟨s, rfl, ⟨?_, ho7.2⟩, e07.then e8 (fun b hb hlt => absurd hlt (Nat.not_lt.2 (ho7.2 b hb)))⟩
    have hp : putL lsK gtI L x = L.set i x := by unfold putL; rw [hf]
    rw [hp]; exact h8
  | none =>
    have hidx : idxI (fun y => decide (lsK y = lsK x)) L = -1 := by unfold idxI; rw [hf]
    rw [hidx]
    refine VIf.f (by simp) ?_
    refine VCall.i (IndexL_spec s L _ _ [] w7 ho7.in_ (dynGtL (hk6.ext e7) (hc6.ext e7))) ?_
    rintro e w9 ⟨rfl, e9⟩
    refine ⟨_, rfl, VSet.i ?_⟩
    have e09 := e07.then0 e9
    have ho9 := ho7.ext0 e9
    have hx9 := hx7.ext e9
    have hsl := ho9.len
    obtain ⟨j, hj, hjp, hjj⟩ : ∃ j : Nat, j ≤ L.length ∧ putL lsK gtI L x = L.take j ++ x :: L.drop j ∧ (if idxI (fun y => gtI (lsK y) (lsK x)) L < 0 then (L.length : Int) else idxI (fun y => gtI (lsK y) (lsK x)) L) = (j : Int) := by
      unfold putL idxI
      rw [hf]
      cases hg : L.findIdx? (fun y => gtI (lsK y) (lsK x)) with
      | some j => exact ⟨j, Nat.le_of_lt (List.findIdx?_eq_some_iff_getElem.1 hg).1, rfl, by simp only; rw [if_neg (by omega)]⟩
      | none => exact ⟨L.length, Nat.le_refl _, by simp, by simp⟩
    refine ⟨fun i W => i = (j : Int) ∧ W = w9, ?_, ?_⟩
    · refine VIf.mk (fun hc => VSet.i ⟨?_, rfl⟩) (fun hc => ⟨?_, rfl⟩)
      · rw [if_pos (by simpa using hc)] at hjj; rw [hsl]; exact hjj
      · rw [if_neg (by simpa using hc)] at hjj; exact hjj
    · rintro i W ⟨rfl, rfl⟩
      refine ⟨x.1, x.2.1, x.2.2.1, x.2.2.2.1, x.2.2.2.2, gd.i (Rd.of_bk hx9 rfl), VNw.i0 fun vb w11 hvb hv e11 => ?_⟩
      have hv : New0 w11 vb (lsR.f x) _ := hv
      have hne : vb ∉ rowB s := fun hm => by have := ho9.1.lt vb hm; omega
      refine VCall.i (InsertL_spec s L j vb x _ w w11 (ho9.ext0 e11) (e09.then0 e11) hj hv hne hb) ?_
      rintro e w12 ⟨s', rfl, ho12, e12⟩
      refine ⟨s', rfl, s', rfl, ?_, e12⟩
      rw [hjp]; exact ho12

end Go.Proofs.Ytlnomdjmjeabhaa
