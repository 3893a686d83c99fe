/-
  Package msg: what a message has is read.
-/
import Derived.Test.YtodcdfelbphajaaMsgL
import Derived.Test.YtodcdfelbphajaaMsgE
import Derived.Test.YtodcdfelbphajaaRecO
namespace Go.Proofs.Ytodcdfelbphajaa
open Go.RowKit
set_option maxRecDepth 100000

/-- a reader that was there before a time -/
structure RC (n0 : Nat) (w : World) (r q d : Nat) (st : Option (List UInt8)) : Prop where
  rep : RepC w r q d st
  lr : r < n0
  lq : q < n0
  ld : d < n0
theorem RC.ext0 {n0 : Nat} {w w' : World} {r q d : Nat} {st : Option (List UInt8)} (h : RC n0 w r q d st) (e : Ext [] w w') : RC n0 w' r q d st := ⟨h.rep.ext0 e, h.lr, h.lq, h.ld⟩
theorem RC.new {n0 : Nat} {w w' : World} {r q d : Nat} {st : Option (List UInt8)} {M : List Nat} (h : RC n0 w r q d st) (e : Ext M w w') (hm : ∀ i ∈ M, n0 ≤ i) : RC n0 w' r q d st :=
  ⟨h.rep.ext e (fun hi => by have := hm _ hi; have := h.lr; omega) (fun hi => by have := hm _ hi; have := h.lq; omega) (fun hi => by have := hm _ hi; have := h.ld; omega), h.lr, h.lq, h.ld⟩
theorem RepC.fix {w : World} {r q d : Nat} {st : Option (List UInt8)} (h : RepC w r q d st) : ∃ d', RC w.heap.size w r q d' st := by
  obtain ⟨s, f, l, hr, hq, hs, hst⟩ := h
  have h1 := hr.lt
  have h2 := hq.lt
  obtain ⟨b1, b2, b3, b4⟩ := hs
  rcases b4 with b4 | ⟨off, cells, hb, hk, hc⟩
  · exact ⟨r, ⟨⟨s, f, l, hr, hq, ⟨b1, b2, b3, .inl b4⟩, hst⟩, h1, h2, h1⟩⟩
  · exact ⟨d, ⟨⟨s, f, l, hr, hq, ⟨b1, b2, b3, .inr ⟨off, cells, hb, hk, hc⟩⟩, hst⟩, h1, h2, hk.lt⟩⟩
theorem rCount_le (most : Int) (h0 : 0 ≤ most) (st : Option (List UInt8)) : (rCount most st).1 ≤ most := by
  unfold rCount
  split
  · exact h0
  · split
    · simp only; omega
    · exact h0
/-- records put behind an own row; only ages are asked -/
theorem VApp.rec2 {α : Type} {r : Rec α} {e : TypeId} {w0 w : World} {s : Sl} {L news : List α} {m bytes : Nat} {zc : Array Value} {src : List Value → Prop} {K : Sl → World → Prop} (h : OwnR r e w0 w s L) (e0 : w0.heap.size ≤ w.heap.size) (hs : src (r.cells news)) (hm : news.length = m) (hz : zc.size = r.k)
    (hb : (L.length + m) * bytes ≤ 140737488355328) (h63 : L.length + m ≤ 9223372036854775807)
    (k : ∀ s' w', OwnR r e w0 w' s' (L ++ news) → Ext (rowB s) w w' → K s' w') : VApp none w e r.k bytes zc s.base s.len s.cap m src K := by
  have hl := h.len
  refine VApp.row (news := r.cells news) h.1 hz hs (by rw [Rec.cells_len, hm]) (Rec.cells_all _) (by rw [hl]; exact hb) (by omega) fun s' w' hr hlen he hbl _ => ?_
  rw [← Rec.cells_app] at hr
  refine k s' w' ⟨hr, fun b hb => ?_⟩ he
  rcases hbl b hb with h' | h'
  · exact h.2 b h'
  · omega

/-! the small readers -/
section
variable {n0 : Nat} {w : World} {r q d : Nat} {st : Option (List UInt8)}
def RdR {T : Type} (n0 : Nat) (w : World) (r q d : Nat) (f : T → Value) (o : T × Option (List UInt8)) (e : Ending) (w' : World) : Prop := e = .returned (f o.1) ∧ RC n0 w' r q d o.2 ∧ Ext [q] w w'
theorem RC.num (h : RC n0 w r q d st) : Calls Try.prog 51 #[.agg #[.pointer (some ⟨r, 0, none⟩)]] w (RdR n0 w r q d (Value.int .i64) (rNum st)) := by
  refine sh_msg_reader_num_ok _ _ _ ?_
  unfold sh_msg_reader_num
  refine VNw.i fun b w1 hb hk e1 => VLd.i1 (t := .ptr) (some ⟨r, 0, none⟩) (Rd.of_bk hk rfl) ?_
  refine VCall.i (rNum_spec r q d st w1 (h.ext0 e1).rep) ?_
  rintro e w2 ⟨rfl, h2, e2⟩
  exact exW.i1 (t := .int .i64) _ rfl (VSet.i ⟨rfl, ⟨h2, h.lr, h.lq, h.ld⟩, (e1.mono (N := [q]) (by simp)).then e2 (fun i hi _ => hi)⟩)
theorem RC.kind (h : RC n0 w r q d st) : Calls Try.prog 50 #[.agg #[.pointer (some ⟨r, 0, none⟩)]] w (RdR n0 w r q d (Value.int .u8) (rK st)) := by
  refine sh_msg_reader_kind_ok _ _ _ ?_
  unfold sh_msg_reader_kind
  refine VNw.i fun b w1 hb hk e1 => VLd.i1 (t := .ptr) (some ⟨r, 0, none⟩) (Rd.of_bk hk rfl) ?_
  refine VCall.i (rCount_spec r q d 255 st w1 (h.ext0 e1).rep) ?_
  rintro e w2 ⟨rfl, h2, e2⟩
  refine exW.i1 (t := .int .i64) _ rfl (VSet.i ⟨?_, ⟨h2, h.lr, h.lq, h.ld⟩, (e1.mono (N := [q]) (by simp)).then e2 (fun i hi _ => hi)⟩)
  have h1 := rCount_pos 255 st
  have h3 := rCount_le 255 (by omega) st
  rw [wrap8, Int.emod_eq_of_lt h1.1 (by omega)]
  rfl
theorem RC.text (h : RC n0 w r q d st) : Calls Try.prog 52 #[.agg #[.pointer (some ⟨r, 0, none⟩)]] w (RdR n0 w r q d Value.string (rS st)) := by
  refine sh_msg_reader_text_ok _ _ _ ?_
  unfold sh_msg_reader_text
  refine VNw.i fun b w1 hb hk e1 => VLd.i1 (t := .ptr) (some ⟨r, 0, none⟩) (Rd.of_bk hk rfl) ?_
  refine VCall.i (rStr_spec r q d 8192 st w1 (h.ext0 e1).rep) ?_
  rintro e w2 ⟨rfl, h2, e2⟩
  exact exW.i1 (t := .str) _ rfl ⟨rfl, ⟨h2, h.lr, h.lq, h.ld⟩, (e1.mono (N := [q]) (by simp)).then e2 (fun i hi _ => hi)⟩
theorem RC.flag (h : RC n0 w r q d st) : Calls Try.prog 53 #[.pointer (some ⟨r, 0, none⟩)] w (RdR n0 w r q d Value.bool (rF st)) := by
  refine (rFlag_spec r q d st w h.rep).mono ?_
  rintro e w2 ⟨rfl, h2, e2⟩
  exact ⟨rfl, ⟨h2, h.lr, h.lq, h.ld⟩, e2⟩
/-- a step that reads -/
theorem RC.go {T : Type} {f : T → Value} {o : T × Option (List UInt8)} {fn : FuncId} {args : Array Value} {t : CT} {z : Value} (hs : Calls Try.prog fn args w (RdR n0 w r q d f o)) {K : ArrW (flatCT z)}
    (k : ∀ v st' w', o = (v, st') → RC n0 w' r q d st' → Ext [q] w w' → exW (flatCT z) (fun vs => Ending.returned (f v) = .returned (rebuild z vs)) K w') : VCall none Try.prog fn args w z K := by
  refine VCall.i hs ?_
  rintro e w' ⟨rfl, h', e'⟩
  exact k o.1 o.2 w' rfl h' e'
theorem RC.num' (h : RC n0 w r q d st) {K : Int → World → Prop} (k : ∀ v st' w', rNum st = (v, st') → RC n0 w' r q d st' → Ext [q] w w' → K v w') : VCall none Try.prog 51 #[.agg #[.pointer (some ⟨r, 0, none⟩)]] w (.int .i64 0) fun (v : Int) (w' : World) => K v w' :=
  RC.go (t := .int .i64) h.num fun v st' w' h1 h2 h3 => exW.i1 (t := .int .i64) v rfl (k v st' w' h1 h2 h3)
theorem RC.kind' (h : RC n0 w r q d st) {K : Int → World → Prop} (k : ∀ v st' w', rK st = (v, st') → RC n0 w' r q d st' → Ext [q] w w' → K v w') : VCall none Try.prog 50 #[.agg #[.pointer (some ⟨r, 0, none⟩)]] w (.int .u8 0) fun (v : Int) (w' : World) => K v w' :=
  RC.go (t := .int .u8) h.kind fun v st' w' h1 h2 h3 => exW.i1 (t := .int .u8) v rfl (k v st' w' h1 h2 h3)
theorem RC.text' (h : RC n0 w r q d st) {K : ByteArray → World → Prop} (k : ∀ v st' w', rS st = (v, st') → RC n0 w' r q d st' → Ext [q] w w' → K v w') : VCall none Try.prog 52 #[.agg #[.pointer (some ⟨r, 0, none⟩)]] w (.string ByteArray.empty) fun (v : ByteArray) (w' : World) => K v w' :=
  RC.go (t := .str) h.text fun v st' w' h1 h2 h3 => exW.i1 (t := .str) v rfl (k v st' w' h1 h2 h3)
theorem RC.flag' (h : RC n0 w r q d st) {K : Bool → World → Prop} (k : ∀ v st' w', rF st = (v, st') → RC n0 w' r q d st' → Ext [q] w w' → K v w') : VCall none Try.prog 53 #[.pointer (some ⟨r, 0, none⟩)] w (.bool false) fun (v : Bool) (w' : World) => K v w' :=
  RC.go (t := .bool) h.flag fun v st' w' h1 h2 h3 => exW.i1 (t := .bool) v rfl (k v st' w' h1 h2 h3)
end
theorem rPair_eq {S T : Type} {r1 : Option (List UInt8) → S × Option (List UInt8)} {r2 : Option (List UInt8) → T × Option (List UInt8)} {st s1 s2 : Option (List UInt8)} {a : S} {b : T} (h1 : r1 st = (a, s1)) (h2 : r2 s1 = (b, s2)) : rPair r1 r2 st = ((a, b), s2) := by
  unfold rPair
  rw [h1]; simp only; rw [h2]
def rRes : Option (List UInt8) → (Int × Bool × ByteArray) × Option (List UInt8) := rPair rK (rPair rF rS)
theorem q1 {q : Nat} {w w1 w2 : World} (e1 : Ext [q] w w1) (e2 : Ext [q] w1 w2) : Ext [q] w w2 := e1.then e2 (fun i hi _ => hi)
theorem q0 {q : Nat} {w w1 : World} (e1 : Ext [] w w1) : Ext [q] w w1 := e1.mono (by simp)
theorem RC.res {n0 : Nat} {w : World} {r q d : Nat} {st : Option (List UInt8)} (h : RC n0 w r q d st) (hn : n0 ≤ w.heap.size) :
    Calls Try.prog 54 #[.agg #[.pointer (some ⟨r, 0, none⟩)]] w (RdR n0 w r q d (fun x : Int × Bool × ByteArray => .agg #[.int .u8 x.1, .bool x.2.1, .string x.2.2]) (rRes st)) := by
  refine sh_msg_reader_result_ok _ _ _ ?_
  unfold sh_msg_reader_result
  refine VNw.i fun b w1 hb hk e1 => VNw.i fun b2 w2 hb2 hk2 e2 => ?_
  intro w3 hw3
  have ed := Ext.drew' hw3
  have hk3 := (hk.ext e2).ext ed
  have hk23 := hk2.ext ed
  have e03 := (e1.then0 e2).then0 ed
  have z1 := e1.size
  have lq := h.lq
  have bq : b ∉ [q] := by simp; omega
  have bq2 : b2 ∉ [q] := by simp; omega
  iterate 3 refine VLd.i1 (t := .ptr) (some ⟨r, 0, none⟩) (Rd.of_bk hk3 rfl) ?_
  refine (h.ext0 e03).kind' fun v1 s1 w4 g1 h4 e4 => ?_
  have hk4 := hk3.ext e4 bq
  refine ⟨Rd.of_bk hk4 rfl, Rd.of_bk hk4 rfl, ?_⟩
  refine h4.flag' fun v2 s2 w5 g2 h5 e5 => ⟨Rd.of_bk (hk4.ext e5 bq) rfl, ?_⟩
  refine h5.text' fun v3 s3 w6 g3 h6 e6 => ?_
  have hk26 := ((hk23.ext e4 bq2).ext e5 bq2).ext e6 bq2
  refine VSt.bk hk26 rfl (by simp) fun w7 hk7 e7 => ?_
  have hk7 : Bk w7 b2 [.int .u8 v1, .bool v2, .string v3] 26 := hk7
  have eq := q1 (q1 (q1 (q0 e03) e4) e5) e6
  refine VLd.i3 (t := .int .u8) (u := .bool) (v := .str) v1 v2 v3 (Rd.of_bk hk7 rfl) ?_
  have hr : rRes st = ((v1, v2, v3), s3) := rPair_eq g1 (rPair_eq g2 g3)
  rw [hr]
  exact ⟨rfl, h6.new e7 (fun i hi => by simp at hi; omega), eq.then e7 (fun i hi hlt => by simp at hi; omega)⟩
theorem RC.res' {n0 : Nat} {w : World} {r q d : Nat} {st : Option (List UInt8)} (h : RC n0 w r q d st) (hn : n0 ≤ w.heap.size) {K : Int → Bool → ByteArray → World → Prop} (k : ∀ v1 v2 v3 st' w', rRes st = ((v1, v2, v3), st') → RC n0 w' r q d st' → Ext [q] w w' → K v1 v2 v3 w') :
    VCall none Try.prog 54 #[.agg #[.pointer (some ⟨r, 0, none⟩)]] w (.agg #[.int .u8 0, .bool false, .string ByteArray.empty]) fun (v1 : Int) (v2 : Bool) (v3 : ByteArray) (w' : World) => K v1 v2 v3 w' :=
  RC.go (t := .str) (h.res hn) fun v st' w' h1 h2 h3 => exW.i3 (t := .int .u8) (u := .bool) (v := .str) v.1 v.2.1 v.2.2 rfl (k v.1 v.2.1 v.2.2 st' w' h1 h2 h3)

/-! lists -/

theorem itemsI (n0 : Nat) (w : World) (r q d : Nat) (st : Option (List UInt8)) (get : Value) (h : RC n0 w r q d st) (hn : n0 ≤ w.heap.size)
    (hget : ∀ (W : World) (s : Option (List UInt8)) (K : Int → World → Prop), RC n0 W r q d s → Ext [q] w W → (∀ v s' W', rNum s = (v, s') → RC n0 W' r q d s' → Ext [q] W W' → K v W') → VDyn none Try.prog get #[] W (.int .i64 0) fun (a : Int) (W' : World) => K a W') :
    Calls Try.prog 57 #[.agg #[.pointer (some ⟨r, 0, none⟩)], get] w fun e w' => ∃ s : Sl, e = .returned (.slice s.base s.len s.cap) ∧ OwnR intR 3 w w' s (rL rNum st).1 ∧ RC n0 w' r q d (rL rNum st).2 ∧ Ext [q] w w' := by
  refine sh_msg_items'_ok _ _ _ _ ?_
  unfold sh_msg_items'
  have lq := h.lq
  refine VNw.i fun b w1 hb hk e1 => VLd.i1 (t := .ptr) (some ⟨r, 0, none⟩) (Rd.of_bk hk rfl) ?_
  have bq : b ∉ [q] := by simp; omega
  refine VCall.i (rCount_spec r q d 8192 st w1 (h.ext0 e1).rep) ?_
  rintro e w2 ⟨rfl, h2, e2⟩
  have c0 := (rCount_pos 8192 st).1
  have c1 := rCount_le 8192 (by omega) st
  unfold rL
  obtain ⟨N, hN⟩ : ∃ N : Nat, (rCount 8192 st).1 = (N : Int) := ⟨_, (Int.toNat_of_nonneg c0).symm⟩
  rw [hN, Int.toNat_natCast]
  rw [hN] at c1
  obtain ⟨s1, hs1⟩ : ∃ s1, s1 = (rCount 8192 st).2 := ⟨_, rfl⟩
  rw [← hs1] at h2 ⊢
  refine exW.i1 (t := .int .i64) _ rfl ?_
  refine VSet.i ?_
  have e02 : Ext [q] w w2 := q1 (q0 e1) e2
  refine ⟨fun k (out : Sl) i W => ∃ (m : Nat) (L : List Int) (s : Option (List UInt8)), i = (m : Int) ∧ m ≤ N ∧ k = m ∧ L.length + m ≤ N ∧ rIts rNum N s1 = (L ++ (rIts rNum m s).1, (rIts rNum m s).2) ∧ OwnR intR 3 w W out L ∧ RC n0 W r q d s ∧ Bk W b [.pointer (some ⟨r, 0, none⟩)] 90 ∧ Ext [q] w W,
    ⟨_, N, [], s1, rfl, Nat.le_refl _, rfl, by simp, by simp, OwnR.nil _ _ _ _, ⟨h2, h.lr, h.lq, h.ld⟩, hk.ext e2 bq, e02⟩, ?_⟩
  rintro k out i w3 ⟨m, L, s, rfl, hm, hkm, hL, hI, ho, h3, hk3, e3⟩
  refine VLd.i1 (t := .ptr) (some ⟨r, 0, none⟩) (Rd.of_bk hk3 rfl) ?_
  have hcall : ∀ {K : Bool → World → Prop}, (∀ rb, (0 < m → rb = s.isSome) → K rb w3) → VCall (some (decide ((m : Int) > 0))) Try.prog 93 #[.pointer (some ⟨r, 0, none⟩)] w3 (.bool false) fun (rb : Bool) (w4 : World) => K rb w4 := by
    intro K hK
    by_cases h0 : 0 < m
    · refine VCall.on (by simpa using h0) (VCall.i (rOK_spec r q d s w3 h3.rep) ?_)
      rintro e w4 ⟨rfl, rfl⟩
      exact exW.i1 (t := .bool) _ rfl (hK _ fun _ => rfl)
    · exact VCall.off (by simpa using h0) (exW.i1 (t := .bool) false trivial (hK false fun h => absurd h h0))
  refine hcall fun rb hrb => VIf.mk (fun hc => ?_) (fun hc => ?_)
  · simp only [Bool.and_eq_true, decide_eq_true_eq] at hc
    obtain ⟨hc1, hc2⟩ := hc
    have hm0 : 0 < m := by omega
    rw [hrb hm0] at hc2
    obtain ⟨m', rfl⟩ : ∃ m', m = m' + 1 := ⟨m - 1, by omega⟩
    cases s with
    | none => cases hc2
    | some l =>
    refine hget w3 (some l) _ h3 e3 fun v s' w5 hv h5 e5 => ?_
    refine VNw.i fun b6 w6 hb6 hk6 e6 => ?_
    have e36 : Ext [q] w3 w6 := e5.then0 e6
    have ho6 : OwnR intR 3 w w6 out L := (ho.ext e5 (fun b hb hq => by simp at hq; subst hq; have := ho.2 b hb; omega)).ext0 e6
    have e06 := q1 e3 e36
    refine VApp.rec2 (r := intR) (news := [v]) ho6 e06.size (Seg.of_bk hk6 rfl rfl) rfl rfl (by omega) (by omega) fun s7 w7 ho7 e7 => ?_
    have hrow : ∀ i ∈ rowB out, w.heap.size ≤ i := ho.2
    have e07 : Ext [q] w w7 := e06.then e7 (fun i hi hlt => by have := hrow i hi; omega)
    rw [w64 (n := ((m' + 1 : Nat) : Int) - 1) (by omega)]
    refine VSet.i ⟨m', by omega, m', L ++ [v], s', by omega, by omega, rfl, by rw [List.length_append]; simp; omega, ?_, ho7, (h5.ext0 e6).new e7 (fun i hi => by have := hrow i hi; omega), ?_, e07⟩
    · rw [hI]
      have hst : rIts rNum (m' + 1) (some l) = (v :: (rIts rNum m' s').1, (rIts rNum m' s').2) := by
        rw [rIts, hv]
      rw [hst]
      simp
    · have hkb : b ∉ rowB out := fun hb => by
        obtain ⟨_, hz⟩ := ho.1.bk_of hb
        exact hz.neT hk3 (by decide) rfl
      exact ((hk3.ext e5 bq).ext e6).ext e7 hkb
  · refine ⟨out, rfl, ?_⟩
    have hfin : rIts rNum m s = ([], s) := by
      by_cases h0 : 0 < m
      · have := hrb h0
        rw [this] at hc
        cases s with
        | none => exact rIts_none _ _
        | some l => simp at hc; omega
      · rw [show m = 0 by omega]; rfl
    rw [hI, hfin, List.append_nil]
    exact ⟨ho, h3, e3⟩
theorem itemsP (n0 : Nat) (w : World) (r q d : Nat) (st : Option (List UInt8)) (get : Value) (h : RC n0 w r q d st) (hn : n0 ≤ w.heap.size)
    (hget : ∀ (W : World) (s : Option (List UInt8)) (K : ByteArray → ByteArray → World → Prop), RC n0 W r q d s → Ext [q] w W → (∀ v s' W', rPr s = (v, s') → RC n0 W' r q d s' → Ext [q] W W' → K v.1 v.2 W') → VDyn none Try.prog get #[] W (.agg #[.string ByteArray.empty, .string ByteArray.empty]) fun (a b : ByteArray) (W' : World) => K a b W') :
    Calls Try.prog 58 #[.agg #[.pointer (some ⟨r, 0, none⟩)], get] w fun e w' => ∃ s : Sl, e = .returned (.slice s.base s.len s.cap) ∧ OwnR prR 52 w w' s (rL rPr st).1 ∧ RC n0 w' r q d (rL rPr st).2 ∧ Ext [q] w w' := by
  refine sh_msg_items''_ok _ _ _ _ ?_
  unfold sh_msg_items''
  have lq := h.lq
  refine VNw.i fun b w1 hb hk e1 => VLd.i1 (t := .ptr) (some ⟨r, 0, none⟩) (Rd.of_bk hk rfl) ?_
  have bq : b ∉ [q] := by simp; omega
  refine VCall.i (rCount_spec r q d 8192 st w1 (h.ext0 e1).rep) ?_
  rintro e w2 ⟨rfl, h2, e2⟩
  have c0 := (rCount_pos 8192 st).1
  have c1 := rCount_le 8192 (by omega) st
  unfold rL
  obtain ⟨N, hN⟩ : ∃ N : Nat, (rCount 8192 st).1 = (N : Int) := ⟨_, (Int.toNat_of_nonneg c0).symm⟩
  rw [hN, Int.toNat_natCast]
  rw [hN] at c1
  obtain ⟨s1, hs1⟩ : ∃ s1, s1 = (rCount 8192 st).2 := ⟨_, rfl⟩
  rw [← hs1] at h2 ⊢
  refine exW.i1 (t := .int .i64) _ rfl ?_
  refine VSet.i ?_
  have e02 : Ext [q] w w2 := q1 (q0 e1) e2
  refine ⟨fun k (out : Sl) i W => ∃ (m : Nat) (L : List Pr) (s : Option (List UInt8)), i = (m : Int) ∧ m ≤ N ∧ k = m ∧ L.length + m ≤ N ∧ rIts rPr N s1 = (L ++ (rIts rPr m s).1, (rIts rPr m s).2) ∧ OwnR prR 52 w W out L ∧ RC n0 W r q d s ∧ Bk W b [.pointer (some ⟨r, 0, none⟩)] 90 ∧ Ext [q] w W,
    ⟨_, N, [], s1, rfl, Nat.le_refl _, rfl, by simp, by simp, OwnR.nil _ _ _ _, ⟨h2, h.lr, h.lq, h.ld⟩, hk.ext e2 bq, e02⟩, ?_⟩
  rintro k out i w3 ⟨m, L, s, rfl, hm, hkm, hL, hI, ho, h3, hk3, e3⟩
  refine VLd.i1 (t := .ptr) (some ⟨r, 0, none⟩) (Rd.of_bk hk3 rfl) ?_
  have hcall : ∀ {K : Bool → World → Prop}, (∀ rb, (0 < m → rb = s.isSome) → K rb w3) → VCall (some (decide ((m : Int) > 0))) Try.prog 93 #[.pointer (some ⟨r, 0, none⟩)] w3 (.bool false) fun (rb : Bool) (w4 : World) => K rb w4 := by
    intro K hK
    by_cases h0 : 0 < m
    · refine VCall.on (by simpa using h0) (VCall.i (rOK_spec r q d s w3 h3.rep) ?_)
      rintro e w4 ⟨rfl, rfl⟩
      exact exW.i1 (t := .bool) _ rfl (hK _ fun _ => rfl)
    · exact VCall.off (by simpa using h0) (exW.i1 (t := .bool) false trivial (hK false fun h => absurd h h0))
  refine hcall fun rb hrb => VIf.mk (fun hc => ?_) (fun hc => ?_)
  · simp only [Bool.and_eq_true, decide_eq_true_eq] at hc
    obtain ⟨hc1, hc2⟩ := hc
    have hm0 : 0 < m := by omega
    rw [hrb hm0] at hc2
    obtain ⟨m', rfl⟩ : ∃ m', m = m' + 1 := ⟨m - 1, by omega⟩
    cases s with
    | none => cases hc2
    | some l =>
    refine hget w3 (some l) _ h3 e3 fun v s' w5 hv h5 e5 => ?_
    refine VNw.i fun b6 w6 hb6 hk6 e6 => ?_
    have e36 : Ext [q] w3 w6 := e5.then0 e6
    have ho6 : OwnR prR 52 w w6 out L := (ho.ext e5 (fun b hb hq => by simp at hq; subst hq; have := ho.2 b hb; omega)).ext0 e6
    have e06 := q1 e3 e36
    refine VApp.rec2 (r := prR) (news := [v]) ho6 e06.size (Seg.of_bk hk6 rfl rfl) rfl rfl (by omega) (by omega) fun s7 w7 ho7 e7 => ?_
    have hrow : ∀ i ∈ rowB out, w.heap.size ≤ i := ho.2
    have e07 : Ext [q] w w7 := e06.then e7 (fun i hi hlt => by have := hrow i hi; omega)
    rw [w64 (n := ((m' + 1 : Nat) : Int) - 1) (by omega)]
    refine VSet.i ⟨m', by omega, m', L ++ [v], s', by omega, by omega, rfl, by rw [List.length_append]; simp; omega, ?_, ho7, (h5.ext0 e6).new e7 (fun i hi => by have := hrow i hi; omega), ?_, e07⟩
    · rw [hI]
      have hst : rIts rPr (m' + 1) (some l) = (v :: (rIts rPr m' s').1, (rIts rPr m' s').2) := by
        rw [rIts, hv]
      rw [hst]
      simp
    · have hkb : b ∉ rowB out := fun hb => by
        obtain ⟨_, hz⟩ := ho.1.bk_of hb
        exact hz.neT hk3 (by decide) rfl
      exact ((hk3.ext e5 bq).ext e6).ext e7 hkb
  · refine ⟨out, rfl, ?_⟩
    have hfin : rIts rPr m s = ([], s) := by
      by_cases h0 : 0 < m
      · have := hrb h0
        rw [this] at hc
        cases s with
        | none => exact rIts_none _ _
        | some l => simp at hc; omega
      · rw [show m = 0 by omega]; rfl
    rw [hI, hfin, List.append_nil]
    exact ⟨ho, h3, e3⟩
theorem itemsQ (n0 : Nat) (w : World) (r q d : Nat) (st : Option (List UInt8)) (get : Value) (h : RC n0 w r q d st) (hn : n0 ≤ w.heap.size)
    (hget : ∀ (W : World) (s : Option (List UInt8)) (K : Int → Int → Int → Bool → ByteArray → World → Prop), RC n0 W r q d s → Ext [q] w W → (∀ v s' W', rLs s = (v, s') → RC n0 W' r q d s' → Ext [q] W W' → K v.1 v.2.1 v.2.2.1 v.2.2.2.1 v.2.2.2.2 W') → VDyn none Try.prog get #[] W (.agg #[.int .i64 0, .int .i64 0, .int .u8 0, .bool false, .string ByteArray.empty]) fun (a b c : Int) (x : Bool) (y : ByteArray) (W' : World) => K a b c x y W') :
    Calls Try.prog 60 #[.agg #[.pointer (some ⟨r, 0, none⟩)], get] w fun e w' => ∃ s : Sl, e = .returned (.slice s.base s.len s.cap) ∧ OwnR lsR 55 w w' s (rL rLs st).1 ∧ RC n0 w' r q d (rL rLs st).2 ∧ Ext [q] w w' := by
  refine sh_msg_items'''_ok _ _ _ _ ?_
  unfold sh_msg_items'''
  have lq := h.lq
  refine VNw.i fun b w1 hb hk e1 => VLd.i1 (t := .ptr) (some ⟨r, 0, none⟩) (Rd.of_bk hk rfl) ?_
  have bq : b ∉ [q] := by simp; omega
  refine VCall.i (rCount_spec r q d 8192 st w1 (h.ext0 e1).rep) ?_
  rintro e w2 ⟨rfl, h2, e2⟩
  have c0 := (rCount_pos 8192 st).1
  have c1 := rCount_le 8192 (by omega) st
  unfold rL
  obtain ⟨N, hN⟩ : ∃ N : Nat, (rCount 8192 st).1 = (N : Int) := ⟨_, (Int.toNat_of_nonneg c0).symm⟩
  rw [hN, Int.toNat_natCast]
  rw [hN] at c1
  obtain ⟨s1, hs1⟩ : ∃ s1, s1 = (rCount 8192 st).2 := ⟨_, rfl⟩
  rw [← hs1] at h2 ⊢
  refine exW.i1 (t := .int .i64) _ rfl ?_
  refine VSet.i ?_
  have e02 : Ext [q] w w2 := q1 (q0 e1) e2
  refine ⟨fun k (out : Sl) i W => ∃ (m : Nat) (L : List Ls) (s : Option (List UInt8)), i = (m : Int) ∧ m ≤ N ∧ k = m ∧ L.length + m ≤ N ∧ rIts rLs N s1 = (L ++ (rIts rLs m s).1, (rIts rLs m s).2) ∧ OwnR lsR 55 w W out L ∧ RC n0 W r q d s ∧ Bk W b [.pointer (some ⟨r, 0, none⟩)] 90 ∧ Ext [q] w W,
    ⟨_, N, [], s1, rfl, Nat.le_refl _, rfl, by simp, by simp, OwnR.nil _ _ _ _, ⟨h2, h.lr, h.lq, h.ld⟩, hk.ext e2 bq, e02⟩, ?_⟩
  rintro k out i w3 ⟨m, L, s, rfl, hm, hkm, hL, hI, ho, h3, hk3, e3⟩
  refine VLd.i1 (t := .ptr) (some ⟨r, 0, none⟩) (Rd.of_bk hk3 rfl) ?_
  have hcall : ∀ {K : Bool → World → Prop}, (∀ rb, (0 < m → rb = s.isSome) → K rb w3) → VCall (some (decide ((m : Int) > 0))) Try.prog 93 #[.pointer (some ⟨r, 0, none⟩)] w3 (.bool false) fun (rb : Bool) (w4 : World) => K rb w4 := by
    intro K hK
    by_cases h0 : 0 < m
    · refine VCall.on (by simpa using h0) (VCall.i (rOK_spec r q d s w3 h3.rep) ?_)
      rintro e w4 ⟨rfl, rfl⟩
      exact exW.i1 (t := .bool) _ rfl (hK _ fun _ => rfl)
    · exact VCall.off (by simpa using h0) (exW.i1 (t := .bool) false trivial (hK false fun h => absurd h h0))
  refine hcall fun rb hrb => VIf.mk (fun hc => ?_) (fun hc => ?_)
  · simp only [Bool.and_eq_true, decide_eq_true_eq] at hc
    obtain ⟨hc1, hc2⟩ := hc
    have hm0 : 0 < m := by omega
    rw [hrb hm0] at hc2
    obtain ⟨m', rfl⟩ : ∃ m', m = m' + 1 := ⟨m - 1, by omega⟩
    cases s with
    | none => cases hc2
    | some l =>
    refine hget w3 (some l) _ h3 e3 fun v s' w5 hv h5 e5 => ?_
    refine VNw.i fun b6 w6 hb6 hk6 e6 => ?_
    have e36 : Ext [q] w3 w6 := e5.then0 e6
    have ho6 : OwnR lsR 55 w w6 out L := (ho.ext e5 (fun b hb hq => by simp at hq; subst hq; have := ho.2 b hb; omega)).ext0 e6
    have e06 := q1 e3 e36
    refine VApp.rec2 (r := lsR) (news := [v]) ho6 e06.size (Seg.of_bk hk6 rfl rfl) rfl rfl (by omega) (by omega) fun s7 w7 ho7 e7 => ?_
    have hrow : ∀ i ∈ rowB out, w.heap.size ≤ i := ho.2
    have e07 : Ext [q] w w7 := e06.then e7 (fun i hi hlt => by have := hrow i hi; omega)
    rw [w64 (n := ((m' + 1 : Nat) : Int) - 1) (by omega)]
    refine VSet.i ⟨m', by omega, m', L ++ [v], s', by omega, by omega, rfl, by rw [List.length_append]; simp; omega, ?_, ho7, (h5.ext0 e6).new e7 (fun i hi => by have := hrow i hi; omega), ?_, e07⟩
    · rw [hI]
      have hst : rIts rLs (m' + 1) (some l) = (v :: (rIts rLs m' s').1, (rIts rLs m' s').2) := by
        rw [rIts, hv]
      rw [hst]
      simp
    · have hkb : b ∉ rowB out := fun hb => by
        obtain ⟨_, hz⟩ := ho.1.bk_of hb
        exact hz.neT hk3 (by decide) rfl
      exact ((hk3.ext e5 bq).ext e6).ext e7 hkb
  · refine ⟨out, rfl, ?_⟩
    have hfin : rIts rLs m s = ([], s) := by
      by_cases h0 : 0 < m
      · have := hrb h0
        rw [this] at hc
        cases s with
        | none => exact rIts_none _ _
        | some l => simp at hc; omega
      · rw [show m = 0 by omega]; rfl
    rw [hI, hfin, List.append_nil]
    exact ⟨ho, h3, e3⟩
/-- entries in memory of their own -/
structure EOwn (w0 w : World) (s : Sl) (X : List EX) : Prop where
  er : OwnR enR 58 w0 w s (X.map (·.1))
  ea : ∀ j (hj : j < X.length), OwnR intR 3 w0 w (X[j]).1.2.2.2 (X[j]).2
  es : ∀ i j (hi : i < X.length) (hj : j < X.length), i ≠ j → ∀ b ∈ rowB (X[i]).1.2.2.2, b ∉ rowB (X[j]).1.2.2.2
theorem EOwn.ext0 {w0 w w' : World} {s : Sl} {X : List EX} (h : EOwn w0 w s X) (e : Ext [] w w') : EOwn w0 w' s X := ⟨h.er.ext0 e, fun j hj => (h.ea j hj).ext0 e, h.es⟩
theorem EOwn.ext {w0 w w' : World} {s : Sl} {X : List EX} {M : List Nat} (h : EOwn w0 w s X) (e : Ext M w w') (hm : ∀ b, w0.heap.size ≤ b → (∃ cs, Bk w b cs 58) ∨ (∃ cs, Bk w b cs 3) → b ∉ M) : EOwn w0 w' s X :=
  ⟨h.er.ext e fun b hb => hm b (h.er.2 b hb) (.inl (h.er.1.bk_of hb)), fun j hj => (h.ea j hj).ext e fun b hb => hm b ((h.ea j hj).2 b hb) (.inr ((h.ea j hj).1.bk_of hb)), h.es⟩
theorem EOwn.extq {w0 w w' : World} {s : Sl} {X : List EX} {q : Nat} (h : EOwn w0 w s X) (e : Ext [q] w w') (hq : q < w0.heap.size) : EOwn w0 w' s X :=
  h.ext e fun b hb _ hm => by simp at hm; omega
theorem EOwn.nil (w0 w : World) : EOwn w0 w ⟨none, 0, 0⟩ [] := ⟨OwnR.nil _ _ _ _, fun j hj => absurd hj (by simp), fun i j hi => absurd hi (by simp)⟩
theorem itemsE (n0 : Nat) (w : World) (r q d : Nat) (st : Option (List UInt8)) (get : Value) (h : RC n0 w r q d st) (hn : n0 ≤ w.heap.size)
    (hget : ∀ (W : World) (s : Option (List UInt8)) (K : Int → Int → ByteArray → Sl → World → Prop), RC n0 W r q d s → Ext [q] w W → (∀ (x : EX) s' W', rEn s = (x.en, s') → OwnR intR 3 W W' x.1.2.2.2 x.2 → RC n0 W' r q d s' → Ext [q] W W' → K x.1.1 x.1.2.1 x.1.2.2.1 x.1.2.2.2 W') → VDyn none Try.prog get #[] W (.agg #[.int .i64 0, .int .u8 0, .string ByteArray.empty, .slice none 0 0]) fun (a b : Int) (c : ByteArray) (l : Sl) (W' : World) => K a b c l W') :
    Calls Try.prog 55 #[.agg #[.pointer (some ⟨r, 0, none⟩)], get] w fun e w' => ∃ (s : Sl) (X : List EX), e = .returned (.slice s.base s.len s.cap) ∧ EOwn w w' s X ∧ ens X = (rL rEn st).1 ∧ RC n0 w' r q d (rL rEn st).2 ∧ Ext [q] w w' := by
  refine sh_msg_items_ok _ _ _ _ ?_
  unfold sh_msg_items
  have lq := h.lq
  refine VNw.i fun b w1 hb hk e1 => VLd.i1 (t := .ptr) (some ⟨r, 0, none⟩) (Rd.of_bk hk rfl) ?_
  have bq : b ∉ [q] := by simp; omega
  refine VCall.i (rCount_spec r q d 8192 st w1 (h.ext0 e1).rep) ?_
  rintro e w2 ⟨rfl, h2, e2⟩
  have c0 := (rCount_pos 8192 st).1
  have c1 := rCount_le 8192 (by omega) st
  unfold rL
  obtain ⟨N, hN⟩ : ∃ N : Nat, (rCount 8192 st).1 = (N : Int) := ⟨_, (Int.toNat_of_nonneg c0).symm⟩
  rw [hN, Int.toNat_natCast]
  rw [hN] at c1
  obtain ⟨s1, hs1⟩ : ∃ s1, s1 = (rCount 8192 st).2 := ⟨_, rfl⟩
  rw [← hs1] at h2 ⊢
  refine exW.i1 (t := .int .i64) _ rfl ?_
  refine VSet.i ?_
  have e02 : Ext [q] w w2 := q1 (q0 e1) e2
  refine ⟨fun k (out : Sl) i W => ∃ (m : Nat) (X : List EX) (s : Option (List UInt8)), i = (m : Int) ∧ m ≤ N ∧ k = m ∧ X.length + m ≤ N ∧ rIts rEn N s1 = (ens X ++ (rIts rEn m s).1, (rIts rEn m s).2) ∧ EOwn w W out X ∧ RC n0 W r q d s ∧ Bk W b [.pointer (some ⟨r, 0, none⟩)] 90 ∧ Ext [q] w W,
    ⟨_, N, [], s1, rfl, Nat.le_refl _, rfl, by simp, by simp [ens], EOwn.nil _ _, ⟨h2, h.lr, h.lq, h.ld⟩, hk.ext e2 bq, e02⟩, ?_⟩
  rintro k out i w3 ⟨m, X, s, rfl, hm, hkm, hL, hI, ho, h3, hk3, e3⟩
  refine VLd.i1 (t := .ptr) (some ⟨r, 0, none⟩) (Rd.of_bk hk3 rfl) ?_
  have hcall : ∀ {K : Bool → World → Prop}, (∀ rb, (0 < m → rb = s.isSome) → K rb w3) → VCall (some (decide ((m : Int) > 0))) Try.prog 93 #[.pointer (some ⟨r, 0, none⟩)] w3 (.bool false) fun (rb : Bool) (w4 : World) => K rb w4 := by
    intro K hK
    by_cases h0 : 0 < m
    · refine VCall.on (by simpa using h0) (VCall.i (rOK_spec r q d s w3 h3.rep) ?_)
      rintro e w4 ⟨rfl, rfl⟩
      exact exW.i1 (t := .bool) _ rfl (hK _ fun _ => rfl)
    · exact VCall.off (by simpa using h0) (exW.i1 (t := .bool) false trivial (hK false fun h => absurd h h0))
  refine hcall fun rb hrb => VIf.mk (fun hc => ?_) (fun hc => ?_)
  · simp only [Bool.and_eq_true, decide_eq_true_eq] at hc
    obtain ⟨hc1, hc2⟩ := hc
    have hm0 : 0 < m := by omega
    rw [hrb hm0] at hc2
    obtain ⟨m', rfl⟩ : ∃ m', m = m' + 1 := ⟨m - 1, by omega⟩
    cases s with
    | none => cases hc2
    | some l =>
    have z3 := e3.size
    refine hget w3 (some l) _ h3 e3 fun x s' w5 hv hl5 h5 e5 => ?_
    refine VNw.i fun b6 w6 hb6 hk6 e6 => ?_
    have e36 : Ext [q] w3 w6 := e5.then0 e6
    have ho6 : EOwn w w6 out X := ho.extq e36 (by omega)
    have hl6 : OwnR intR 3 w w6 x.1.2.2.2 x.2 := (hl5.mono z3).ext0 e6
    have e06 := q1 e3 e36
    refine VApp.rec2 (r := enR) (news := [x.1]) ho6.er e06.size (Seg.of_bk hk6 rfl rfl) rfl rfl (by rw [List.length_map]; omega) (by rw [List.length_map]; omega) fun s7 w7 ho7 e7 => ?_
    have hrow : ∀ i ∈ rowB out, w.heap.size ≤ i := ho.er.2
    have e07 : Ext [q] w w7 := e06.then e7 (fun i hi hlt => by have := hrow i hi; omega)
    rw [w64 (n := ((m' + 1 : Nat) : Int) - 1) (by omega)]
    refine VSet.i ⟨m', by omega, m', X ++ [x], s', by omega, by omega, rfl, by rw [List.length_append]; simp; omega, ?_, ⟨by rw [List.map_append]; exact ho7, ?_, ?_⟩, (h5.ext0 e6).new e7 (fun i hi => by have := hrow i hi; omega), ?_, e07⟩
    · rw [hI]
      have hst : rIts rEn (m' + 1) (some l) = (x.en :: (rIts rEn m' s').1, (rIts rEn m' s').2) := by
        rw [rIts, hv]
      rw [hst]
      simp [ens]
    · intro j hj
      rw [List.length_append] at hj
      by_cases hjm : j < X.length
      · rw [List.getElem_append_left hjm]
        have := ho6.ea j hjm
        exact this.ext e7 (this.sepT ho6.er (by decide))
      · have : j = X.length := by simp at hj; omega
        subst this
        rw [List.getElem_append_right (Nat.le_refl _)]
        simp only [Nat.sub_self, List.getElem_cons_zero]
        exact hl6.ext e7 (hl6.sepT ho6.er (by decide))
    · intro i j hi hj hne b hb hb'
      rw [List.length_append] at hi hj
      have hold : ∀ k (hk : k < X.length), ∀ b ∈ rowB (X[k]).1.2.2.2, b < w3.heap.size := fun k hk => (ho.ea k hk).1.lt
      have hnew : ∀ b ∈ rowB x.1.2.2.2, w3.heap.size ≤ b := hl5.2
      by_cases him : i < X.length
      · rw [List.getElem_append_left him] at hb
        by_cases hjm : j < X.length
        · rw [List.getElem_append_left hjm] at hb'
          exact ho.es i j him hjm hne b hb hb'
        · have : j = X.length := by simp at hj; omega
          subst this
          rw [List.getElem_append_right (Nat.le_refl _)] at hb'
          simp only [Nat.sub_self, List.getElem_cons_zero] at hb'
          have := hold i him b hb
          have := hnew b hb'
          omega
      · have : i = X.length := by simp at hi; omega
        subst this
        rw [List.getElem_append_right (Nat.le_refl _)] at hb
        simp only [Nat.sub_self, List.getElem_cons_zero] at hb
        by_cases hjm : j < X.length
        · rw [List.getElem_append_left hjm] at hb'
          have := hold j hjm b hb'
          have := hnew b hb
          omega
        · simp at hj; omega
    · have hkb : b ∉ rowB out := fun hb => by
        obtain ⟨_, hz⟩ := ho.er.1.bk_of hb
        exact hz.neT hk3 (by decide) rfl
      exact ((hk3.ext e5 bq).ext e6).ext e7 hkb
  · refine ⟨out, X, rfl, ho, ?_⟩
    have hfin : rIts rEn m s = ([], s) := by
      by_cases h0 : 0 < m
      · have := hrb h0
        rw [this] at hc
        cases s with
        | none => exact rIts_none _ _
        | some l => simp at hc; omega
      · rw [show m = 0 by omega]; rfl
    rw [hI, hfin, List.append_nil]
    exact ⟨rfl, h3, e3⟩
/-! what is read of each thing of a list -/
section
variable {n0 : Nat} {w W : World} {r q d rb : Nat} {s : Option (List UInt8)}
theorem getI {K : Int → World → Prop} (h : RC n0 W r q d s) (k : ∀ v s' W', rNum s = (v, s') → RC n0 W' r q d s' → Ext [q] W W' → K v W') :
    VDyn none Try.prog (.func (.func 51) #[.agg #[.pointer (some ⟨r, 0, none⟩)]] #[]) #[] W (.int .i64 0) fun (a : Int) (W' : World) => K a W' :=
  VDyn.i (by kernel_rfl) (h.num' k)
theorem getP_spec (h : RC n0 W r q d s) (hn : n0 ≤ W.heap.size) (hp : Bk W rb [.pointer (some ⟨r, 0, none⟩)] 90) (hrb : rb ≠ q) :
    Calls Try.prog 59 #[.pointer (some ⟨rb, 0, none⟩)] W fun e w' => ∃ v s', e = .returned (.agg #[.string v.1, .string v.2]) ∧ rPr s = (v, s') ∧ RC n0 w' r q d s' ∧ Ext [q] W w' := by
  refine sh_msg_Decode_2_ok _ _ _ ?_
  unfold sh_msg_Decode_2
  have lq := h.lq
  have rq : rb ∉ [q] := by simpa using hrb
  refine VNw.i fun b w1 hb hk e1 => ?_
  intro w2 hw2
  have ed := Ext.drew' hw2
  have bq : b ∉ [q] := by simp; omega
  have hp2 := (hp.ext e1).ext ed
  have hk2 := hk.ext ed
  iterate 2 refine VLd.i1 (t := .ptr) (some ⟨r, 0, none⟩) (Rd.of_bk hp2 rfl) ?_
  refine (h.ext0 (e1.then0 ed)).text' fun v1 s1 w3 g1 h3 e3 => ⟨Rd.of_bk (hp2.ext e3 rq) rfl, ?_⟩
  refine h3.text' fun v2 s2 w4 g2 h4 e4 => ?_
  refine VSt.bk ((hk2.ext e3 bq).ext e4 bq) rfl (by simp) fun w5 hk5 e5 => ?_
  have hk5 : Bk w5 b [.string v1, .string v2] 52 := hk5
  have eq := q1 (q1 (q0 (e1.then0 ed)) e3) e4
  exact VLd.i2 (t := .str) (u := .str) v1 v2 (Rd.of_bk hk5 rfl) ⟨(v1, v2), s2, rfl, rPair_eq g1 g2, h4.new e5 (fun i hi => by simp at hi; omega), eq.then e5 (fun i hi hlt => by simp at hi; omega)⟩
theorem getQ_spec (h : RC n0 W r q d s) (hn : n0 ≤ W.heap.size) (hp : Bk W rb [.pointer (some ⟨r, 0, none⟩)] 90) (hrb : rb ≠ q) :
    Calls Try.prog 61 #[.pointer (some ⟨rb, 0, none⟩)] W fun e w' => ∃ v s', e = .returned (.agg #[.int .i64 v.1, .int .i64 v.2.1, .int .u8 v.2.2.1, .bool v.2.2.2.1, .string v.2.2.2.2]) ∧ rLs s = (v, s') ∧ RC n0 w' r q d s' ∧ Ext [q] W w' := by
  refine sh_msg_Decode_3_ok _ _ _ ?_
  unfold sh_msg_Decode_3
  have lq := h.lq
  have rq : rb ∉ [q] := by simpa using hrb
  refine VNw.i fun b w1 hb hk e1 => ?_
  intro w2 hw2
  have ed := Ext.drew' hw2
  have bq : b ∉ [q] := by simp; omega
  have hp2 := (hp.ext e1).ext ed
  have hk2 := hk.ext ed
  iterate 3 refine VLd.i1 (t := .ptr) (some ⟨r, 0, none⟩) (Rd.of_bk hp2 rfl) ?_
  refine (h.ext0 (e1.then0 ed)).num' fun v1 s1 w3 g1 h3 e3 => ⟨Rd.of_bk (hp2.ext e3 rq) rfl, Rd.of_bk (hp2.ext e3 rq) rfl, ?_⟩
  refine h3.num' fun v2 s2 w4 g2 h4 e4 => ⟨Rd.of_bk ((hp2.ext e3 rq).ext e4 rq) rfl, ?_⟩
  have z := e1.size
  have z2 := ed.size
  have z3 := e3.size
  have z4 := e4.size
  refine h4.res' (by omega) fun x1 x2 x3 s3 w5 g3 h5 e5 => ?_
  refine VSt.bk (((hk2.ext e3 bq).ext e4 bq).ext e5 bq) rfl (by simp) fun w6 hk6 e6 => ?_
  have hk6 : Bk w6 b [.int .i64 v1, .int .i64 v2, .int .u8 x1, .bool x2, .string x3] 55 := hk6
  have eq := q1 (q1 (q1 (q0 (e1.then0 ed)) e3) e4) e5
  exact VLd.i5 (t := .int .i64) (u := .int .i64) (v := .int .u8) (s := .bool) (r := .str) v1 v2 x1 x2 x3 (Rd.of_bk hk6 rfl) ⟨(v1, v2, x1, x2, x3), s3, rfl, rPair_eq g1 (rPair_eq g2 g3), h5.new e6 (fun i hi => by simp at hi; omega), eq.then e6 (fun i hi hlt => by simp at hi; omega)⟩
theorem getE_spec (h : RC n0 W r q d s) (hn : n0 ≤ W.heap.size) (hp : Bk W rb [.pointer (some ⟨r, 0, none⟩)] 90) (hrb : rb ≠ q) :
    Calls Try.prog 56 #[.pointer (some ⟨rb, 0, none⟩)] W fun e w' => ∃ (x : EX) (s' : Option (List UInt8)), e = .returned (.agg #[.int .i64 x.1.1, .int .u8 x.1.2.1, .string x.1.2.2.1, .slice x.1.2.2.2.base x.1.2.2.2.len x.1.2.2.2.cap]) ∧ rEn s = (x.en, s') ∧ OwnR intR 3 W w' x.1.2.2.2 x.2 ∧ RC n0 w' r q d s' ∧ Ext [q] W w' := by
  refine sh_msg_Decode_1_ok _ _ _ ?_
  unfold sh_msg_Decode_1
  have lq := h.lq
  have rq : rb ∉ [q] := by simpa using hrb
  refine VNw.i fun b w1 hb hk e1 => ?_
  intro w2 hw2
  have ed := Ext.drew' hw2
  have bq : b ∉ [q] := by simp; omega
  have hp2 := (hp.ext e1).ext ed
  have hk2 := hk.ext ed
  iterate 5 refine VLd.i1 (t := .ptr) (some ⟨r, 0, none⟩) (Rd.of_bk hp2 rfl) ?_
  have e02 := q0 (q := q) (e1.then0 ed)
  refine (h.ext0 (e1.then0 ed)).num' fun v1 s1 w3 g1 h3 e3 => ?_
  have hp3 := hp2.ext e3 rq
  refine ⟨Rd.of_bk hp3 rfl, Rd.of_bk hp3 rfl, Rd.of_bk hp3 rfl, Rd.of_bk hp3 rfl, ?_⟩
  refine h3.kind' fun v2 s2 w4 g2 h4 e4 => ?_
  have hp4 := hp3.ext e4 rq
  refine ⟨Rd.of_bk hp4 rfl, Rd.of_bk hp4 rfl, Rd.of_bk hp4 rfl, ?_⟩
  refine h4.text' fun v3 s3 w5 g3 h5 e5 => ?_
  have hp5 := hp4.ext e5 rq
  refine ⟨Rd.of_bk hp5 rfl, Rd.of_bk hp5 rfl, ?_⟩
  have e05 := q1 (q1 (q1 e02 e3) e4) e5
  have z5 := e05.size
  refine VCall.i (itemsI n0 w5 r q d s3 _ h5 (by omega) fun W' s' K' hr he hk => getI hr hk) ?_
  rintro e w6 ⟨sl, rfl, hl, h6, e6⟩
  refine exW.i1 (t := .sl) sl rfl ?_
  have hkb := (((hk2.ext e3 bq).ext e4 bq).ext e5 bq).ext e6 bq
  refine VSt.bk hkb rfl (by simp) fun w7 hk7 e7 => ?_
  have hk7 : Bk w7 b [.int .i64 v1, .int .u8 v2, .string v3, .slice sl.base sl.len sl.cap] 58 := hk7
  have e06 := q1 e05 e6
  refine VLd.i4 (t := .int .i64) (u := .int .u8) (v := .str) (s := .sl) v1 v2 v3 sl (Rd.of_bk hk7 rfl) ⟨((v1, v2, v3, sl), (rL rNum s3).1), (rL rNum s3).2, rfl, ?_, (hl.mono (w0 := W) z5).ext e7 (fun b' hb' hq => ?_), h6.new e7 (fun i hi => by simp at hi; omega), e06.then e7 (fun i hi hlt => by simp at hi; omega)⟩
  · exact rPair_eq g1 (rPair_eq g2 (rPair_eq g3 rfl))
  · simp at hq; subst hq
    obtain ⟨_, hz⟩ := hl.1.bk_of hb'
    exact hz.neT hkb (by decide) rfl
end
end Go.Proofs.Ytodcdfelbphajaa
