/-
  Package parts: a joiner takes a packet.
-/
import Derived.Test.YthpbkkjggnejcaaPartsI
namespace Go.Proofs.Ythpbkkjggnejcaa
open Go.RowKit
set_option maxRecDepth 100000

/-- bytes that are told, in new memory -/
def OutR (w0 w : World) (t : Sl) (l : List UInt8) : Prop := t.len = l.length ∧ ((t.base = none ∧ l = []) ∨ ∃ b rest, t.base = some ⟨b, 0, none⟩ ∧ Bk w b (bc l ++ rest) 5 ∧ w0.heap.size ≤ b)
theorem OutR.seg {w0 w : World} {t : Sl} {l : List UInt8} (h : OutR w0 w t l) : Seg w t.base t.len 1 (bc l) := by
  obtain ⟨h1, h2⟩ := h
  refine ⟨by rw [bc_len]; omega, ?_⟩
  rcases h2 with ⟨_, rfl⟩ | ⟨b, rest, hb, hk, _⟩
  · exact .inl (by simpa using h1)
  · exact .inr ⟨_, hb, Rd.of_bk hk (by rw [List.drop_zero, List.take_left])⟩
theorem OutR.nil (w0 w : World) : OutR w0 w ⟨none, 0, 0⟩ [] := ⟨rfl, .inl ⟨rfl, rfl⟩⟩
theorem OutR.ext0 {w0 w w' : World} {t : Sl} {l : List UInt8} (h : OutR w0 w t l) (e : Ext [] w w') : OutR w0 w' t l := by
  obtain ⟨h1, h2⟩ := h
  refine ⟨h1, h2.imp id ?_⟩
  rintro ⟨b, rest, hb, hk, hw⟩
  exact ⟨b, rest, hb, hk.ext e, hw⟩
/-- what stands while a packet is taken -/
structure TS (w0 W : World) (jb : Nat) (K : List KE) (mb : Nat) (os : Sl) (pb wh : Nat) (p : PT) (who : Ky) (K1 : List KE) (os1 : Sl) (F1 : Ky → Option Addr) (W1 : World) : Prop where
  jr : JR w0 W1 jb K1 mb os1 F1
  e : Ext (jbs jb K mb os) W W1
  i : ∀ b ∈ jbs jb K1 mb os1, b ∈ jbs jb K mb os ∨ W.heap.size ≤ b
  kp : Bk W1 pb (ptC p) 66
  kw : Bk W1 wh [.int .i64 who.1, .int .i64 who.2] 69
  np : pb ∉ jbs jb K1 mb os1
  nw : wh ∉ jbs jb K1 mb os1
section
variable {w0 W W1 W2 : World} {jb mb pb wh : Nat} {K K1 K2 : List KE} {os os1 os2 : Sl} {F F1 F2 : Ky → Option Addr} {p : PT} {who : Ky}
theorem TS.ext0 (h : TS w0 W jb K mb os pb wh p who K1 os1 F1 W1) (e : Ext [] W1 W2) : TS w0 W jb K mb os pb wh p who K1 os1 F1 W2 := ⟨h.jr.ext0 e, h.e.then0 e, h.i, h.kp.ext e, h.kw.ext e, h.np, h.nw⟩
theorem TS.to (h : TS w0 W jb K mb os pb wh p who K1 os1 F1 W1) : JTo w0 W jb K mb os K1 W1 := ⟨os1, F1, h.jr, h.e, h.i⟩
theorem TS.step (h : TS w0 W jb K mb os pb wh p who K1 os1 F1 W1) (g : JTo w0 W1 jb K1 mb os1 K2 W2) : ∃ os2 F2, TS w0 W jb K mb os pb wh p who K2 os2 F2 W2 := by
  obtain ⟨os2, F2, hJ, e, i⟩ := g
  have z := h.e.size
  refine ⟨os2, F2, hJ, h.e.then e (fun b hb hlt => ?_), fun b hb => ?_, h.kp.ext e h.np, h.kw.ext e h.nw, fun hb => ?_, fun hb => ?_⟩
  · rcases h.i b hb with h' | h'
    · exact h'
    · omega
  · rcases i b hb with h' | h'
    · exact h.i b h'
    · exact .inr (by omega)
  · rcases i _ hb with h' | h'
    · exact h.np h'
    · have := h.kp.lt; omega
  · rcases i _ hb with h' | h'
    · exact h.nw h'
    · have := h.kw.lt; omega
end
theorem ps_all {sl : Slots} (h : ¬ 0 < leftOf sl) : ∀ i (hi : i < sl.length), ∃ d, sl[i] = some d := by
  intro i hi
  cases hx : sl[i] with
  | some d => exact ⟨d, rfl⟩
  | none =>
    exfalso
    apply h
    unfold leftOf
    rw [List.countP_pos_iff]
    exact ⟨sl[i], List.getElem_mem hi, by rw [hx]; rfl⟩
theorem psOf_len (sl : Slots) : (psOf sl).length = sl.length := List.length_map ..
theorem bsOf_len (sl : Slots) : (bsOf sl).length = sl.length := List.length_map ..
theorem psOf_get (sl : Slots) (i : Nat) (h : i < (psOf sl).length) : (psOf sl)[i] = (sl[i]'(by rw [psOf_len] at h; exact h)).getD ByteArray.empty := by simp [psOf]
theorem bsOf_get (sl : Slots) (i : Nat) (h : i < (bsOf sl).length) : (bsOf sl)[i] = (sl[i]'(by rw [bsOf_len] at h; exact h)).isSome := by simp [bsOf]
def preP (ps : List ByteArray) (m : Nat) : List UInt8 := (ps.take m).flatMap fun x => x.data.toList
theorem preP_succ (ps : List ByteArray) (m : Nat) (h : m < ps.length) : preP ps (m + 1) = preP ps m ++ (ps[m]).data.toList := by
  unfold preP
  rw [List.take_succ_eq_append_getElem h, List.flatMap_append]
  simp
theorem preP_len (ps : List ByteArray) : ∀ m, m ≤ ps.length → (∀ i (hi : i < ps.length), i < m → (ps[i]).size = 380) → (preP ps m).length = 380 * m
  | 0, _, _ => rfl
  | m + 1, h, h2 => by
    rw [preP_succ ps m h, List.length_append, preP_len ps m (by omega) (fun i hi hlt => h2 i hi (by omega)), ← ba_size, h2 m h (by omega)]
    omega
theorem joinS_pre (sl : Slots) : joinS sl = preP (psOf sl) sl.length := by
  unfold joinS preP psOf
  rw [List.take_of_length_le (by simp), List.flatMap_map]
section
variable {w0 W : World} {jb mb : Nat} {K : List KE} {os : Sl} {F : Ky → Option Addr}
set_option maxHeartbeats 1000000 in
theorem Take_spec (fr : Int) (s : Sl) (l : List UInt8) (h : JR w0 W jb K mb os F) (hs : In W s l) :
    Calls Try.prog 13 #[.pointer (some ⟨jb, 0, none⟩), .int .i64 fr, .slice s.base s.len s.cap] W fun e w' => ∃ (t : Sl) (K' : List KE), e = .returned (.tuple #[.slice t.base t.len t.cap, .bool (takeP (absE K) fr l).2.2.1, .int .i64 (takeP (absE K) fr l).2.2.2]) ∧ absE K' = (takeP (absE K) fr l).1 ∧ OutR W w' t (takeP (absE K) fr l).2.1 ∧ JTo w0 W jb K mb os K' w' := by
  refine sh_parts_Joiner_Take_ok _ _ _ _ _ ?_
  unfold sh_parts_Joiner_Take
  refine VIf.f rfl ?_
  refine VCall.i (read_spec s l W hs) ?_
  rintro e w1 ⟨rfl, e1⟩
  obtain ⟨p, hp⟩ : ∃ p, p = (readP l).1 := ⟨_, rfl⟩
  rw [← hp]
  refine exW.pt p _ rfl ?_
  refine VNw.i fun pb w2 hpb hk2 e2 => VSt.bk hk2 rfl (by simp) fun w3 hk3 e3 => VSet.i ?_
  have hk3 : Bk w3 pb (ptC p) 66 := hk3
  have e13 : Ext [] w1 w3 := e2.then e3 (fun i hi hlt => by simp at hi; omega)
  have e03 := e1.then0 e13
  have h3 := h.ext0 e03
  have z1 := e1.size
  have hold := h.old
  refine VIf.mk (fun hc => ?_) (fun hc => ?_)
  · have hc : (readP l).2 ≠ 0 := by simpa using hc
    have ht : takeP (absE K) fr l = (absE K, [], false, (readP l).2) := by unfold takeP; rw [if_pos hc]
    rw [ht]
    exact VSet.i ⟨⟨none, 0, 0⟩, K, rfl, rfl, OutR.nil _ _, os, F, h3, e03.mono (by simp), fun b hb => .inl hb⟩
  have hc : (readP l).2 = 0 := by simpa using hc
  obtain ⟨r1, r2, r3, r4, r5, r6, r7⟩ := readP_ok hc
  rw [← hp] at r1 r2 r3 r4 r5 r6 r7
  refine VLd.i1 (t := .int .i64) p.number (Rd.of_bk hk3 rfl) ?_
  obtain ⟨who, hwho⟩ : ∃ who : Ky, who = (fr, p.number) := ⟨_, rfl⟩
  have hw1 : who.1 = fr := by rw [hwho]
  have hw2 : who.2 = p.number := by rw [hwho]
  refine VNw.i fun wh w4 hwh hk4 e4 => VSt.bk hk4 rfl (by simp) fun w5 hk5 e5 => ?_
  have hk5 : Bk w5 wh [.int .i64 who.1, .int .i64 who.2] 69 := by rw [hw1, hw2]; exact hk5
  have e35 : Ext [] w3 w5 := e4.then e5 (fun i hi hlt => by simp at hi; omega)
  intro w6 hw6
  have ed := Ext.drew' hw6
  have e36 := e35.then0 ed
  have e06 := e03.then0 e36
  have z13 := e13.size
  have h6 : TS w0 W jb K mb os pb wh p who K os F w6 := ⟨h3.ext0 e36, e06.mono (by simp), fun b hb => .inl hb, hk3.ext e36, hk5.ext ed, fun hb => by have := (hold _ hb).2; omega, fun hb => by have := (hold _ hb).2; omega⟩
  refine VNN.i (VLd.mp (some mb) (Rd.of_bk h6.jr.j rfl) (VLd.i2 (t := .int .i64) (u := .int .i64) who.1 who.2 (Rd.of_bk h6.kw rfl) ?_))
  refine ⟨_, _, h6.jr.m.tb.lookup who, exW.i1 (t := .ptr) (F who) rfl ?_⟩
  -- a message of that name of another count is forgotten
  refine ⟨fun q W1 => ∃ K1 os1 F1, TS w0 W jb K mb os pb wh p who K1 os1 F1 W1 ∧ absE K1 = takeA1 (absE K) who p.count ∧ ((∃ k ∈ K1, k.key = who ∧ q = some ⟨k.wb, 0, none⟩ ∧ (k.sl.length : Int) = p.count) ∨ (q = none ∧ ∀ k ∈ K1, k.key ≠ who)), ?_, ?_⟩
  · intro w8 hw8
    have e68 := Ext.drew' hw8
    have h8 := h6.ext0 e68
    rcases kept_or K who with ⟨k, hk, hkw⟩ | hno
    · have hF : F who = some ⟨k.wb, 0, none⟩ := by rw [← hkw]; exact h.f k hk
      have hwr := h8.jr.wr k hk
      have hfs := find_some h.nd hk
      rw [hkw] at hfs
      rw [hF]
      refine VNN.i (VLd.s ⟨some ⟨k.pb, 0, none⟩, k.sl.length, k.sl.length⟩ (Rd.of_bk hwr.w rfl) (VLd.i1 (t := .int .i64) p.count (Rd.of_bk h8.kp rfl) (VIf.mk (fun hd => ?_) (fun hd => ?_))))
      · have hd : (k.sl.length : Int) ≠ p.count := by simpa using hd
        refine VLd.i2 (t := .int .i64) (u := .int .i64) who.1 who.2 (Rd.of_bk h8.kw rfl) ?_
        refine VCall.i (forget_spec who h8.jr) ?_
        rintro e w9 ⟨rfl, hJ, _⟩
        refine exW.i0 rfl ?_
        obtain ⟨os2, F2, h9⟩ := h8.step hJ
        refine ⟨_, os2, F2, h9, ?_, .inr ⟨rfl, fun k hk => (dropE_mem.1 hk).2⟩⟩
        rw [abs_drop]
        unfold takeA1
        rw [hfs]
        simp only
        rw [if_pos hd]
      · have hd : (k.sl.length : Int) = p.count := by simpa using hd
        refine ⟨K, os, F, h8, ?_, .inl ⟨k, hk, hkw, rfl, hd⟩⟩
        unfold takeA1
        rw [hfs]
        simp only
        rw [if_neg (by simpa using hd)]
    · have hF : F who = none := h.f0 who hno
      have hfn := find_none hno
      rw [hF]
      refine VNN.n _ rfl none ⟨0, 0, none⟩ ⟨⟨none, 0, 0⟩, fun e => (by cases e), (VLd.i1 (t := .int .i64) p.count (Rd.of_bk h8.kp rfl) (VIf.f rfl ?_))⟩
      refine ⟨K, os, F, h8, ?_, .inr ⟨rfl, hno⟩⟩
      unfold takeA1
      rw [hfn]
  rintro q w10 ⟨K1, os1, F1, h10, hA1, hq⟩
  refine VLd.i1 (t := .int .i64) p.count (Rd.of_bk h10.kp rfl) (VIf.mk (fun hd => ?_) (fun hd => ?_))
  · have hd : p.count = 1 := by simpa using hd
    have ht : takeP (absE K) fr l = (takeA1 (absE K) who p.count, p.data.data.toList, true, 0) := by
      unfold takeP
      rw [if_neg (by simpa using hc), ← hp, if_pos hd, hwho]
    rw [ht]
    refine VLd.i1 (t := .str) p.data (Rd.of_bk h10.kp rfl) (VBytes.i fun b c w11 hb hk11 e11 hcc => ?_)
    have z10 := h10.e.size
    refine ⟨⟨some ⟨b, 0, none⟩, p.data.size, c⟩, K1, rfl, hA1, ⟨ba_size _, .inr ⟨b, _, rfl, hk11, by omega⟩⟩, (h10.ext0 e11).to⟩
  have hd : p.count ≠ 1 := by simpa using hd
  obtain ⟨n, hn⟩ : ∃ n : Nat, p.count = (n : Int) := ⟨p.count.toNat, by omega⟩
  obtain ⟨pl, hpl⟩ : ∃ pl : Nat, p.place = (pl : Int) := ⟨p.place.toNat, by omega⟩
  have hn2 : 2 ≤ n ∧ n ≤ 22 := by omega
  have hpn : pl < n := by omega
  -- there is a message of that name
  refine ⟨fun q W2 => ∃ K2 os2 F2, TS w0 W jb K mb os pb wh p who K2 os2 F2 W2 ∧ absE K2 = takeA2 (takeA1 (absE K) who p.count) who n ∧ ∃ k ∈ K2, k.key = who ∧ q = some ⟨k.wb, 0, none⟩ ∧ k.sl.length = n, ?_, ?_⟩
  · rcases hq with ⟨k, hk, hkw, rfl, hkl⟩ | ⟨rfl, hno⟩
    · refine VIf.f rfl ⟨K1, os1, F1, h10, ?_, k, hk, hkw, rfl, by omega⟩
      unfold takeA2
      have := find_some h10.jr.nd hk
      rw [← hA1, ← hkw, this]
    · refine VIf.t rfl (VLd.i2 (t := .int .i64) (u := .int .i64) who.1 who.2 (Rd.of_bk h10.kw rfl) (VLd.i1 (t := .int .i64) p.count (Rd.of_bk h10.kp rfl) ?_))
      rw [hn]
      refine VCall.i (begin_spec who n hn2 h10.jr hno) ?_
      rintro e w12 ⟨wb, pb2, tb, rfl, hJ⟩
      refine exW.i1 (t := .ptr) (some ⟨wb, 0, none⟩) rfl ?_
      obtain ⟨os2, F2, h12⟩ := h10.step hJ
      refine ⟨_, os2, F2, h12, ?_, ⟨who, wb, pb2, tb, List.replicate n none⟩, List.mem_append_right _ (List.mem_singleton.2 rfl), rfl, rfl, by simp⟩
      rw [abs_app, abs_room, hA1, ← hn]
      unfold takeA2
      have := find_none hno
      rw [hA1] at this
      rw [this]
      rfl
  rintro q w13 ⟨K2, os2, F2, h13, hA2, k, hk, hkw, rfl, hkl⟩
  have hfs := find_some h13.jr.nd hk
  rw [hkw, hA2] at hfs
  obtain ⟨sl', hsl'⟩ : ∃ sl', sl' = putS k.sl pl p.data := ⟨_, rfl⟩
  have hok2 := h13.jr.ok k hk
  have hok' : slotsOk sl' := by
    rw [hsl']
    refine putS_ok hok2 r6 fun hlt => ?_
    rw [hkl] at hlt
    unfold badP at r7
    simp only [not_or] at r7
    obtain ⟨r7, _, _⟩ := r7
    have : ¬ (p.data.size < 380) := fun hh => r7 ⟨by omega, hh⟩
    omega
  have hln' : sl'.length = n := by rw [hsl', putS_len]; exact hkl
  -- the part is put in, if there was none
  refine ⟨fun W3 => TS w0 W jb K mb os pb wh p who (setE K2 who sl') os2 F2 W3, ?_, ?_⟩
  · intro w14 hw14
    have e1314 := Ext.drew' hw14
    have h14 := h13.ext0 e1314
    have hwr := h14.jr.wr k hk
    have hwn : Bk w14 k.wb [.slice (some ⟨k.pb, 0, none⟩) n n, .slice (some ⟨k.tb, 0, none⟩) n n, .int .i64 ((leftOf k.sl : Nat) : Int)] 72 := by
      have := hwr.w
      rw [hkl] at this
      exact this
    have hrd := Rd.of_bk (i := 0) (vs := [.slice (some ⟨k.pb, 0, none⟩) n n, .slice (some ⟨k.tb, 0, none⟩) n n, .int .i64 ((leftOf k.sl : Nat) : Int)]) hwn rfl
    have hsegT : Seg w14 (some ⟨k.tb, 0, none⟩) n boolR.k (boolR.cells (bsOf k.sl)) := Seg.of_bk hwr.t (by simp) (by rw [Rec.cells_len, bsOf_len, hkl])
    have hplb : pl < (bsOf k.sl).length := by rw [bsOf_len, hkl]; exact hpn
    have hplk : pl < k.sl.length := by rw [hkl]; exact hpn
    have hget : (bsOf k.sl)[pl] = (k.sl[pl]).isSome := bsOf_get _ _ hplb
    refine VNN.i (VLd.s ⟨some ⟨k.tb, 0, none⟩, n, n⟩ (hrd.fld 1 rfl) (VLd.i1 (t := .int .i64) p.place (Rd.of_bk h14.kp rfl) ?_))
    rw [hpl]
    refine VIx.i' (r := boolR) hsegT hplb fun a hr => VLd.i1 (t := .bool) ((bsOf k.sl)[pl]) hr ?_
    rw [hget]
    refine VIf.mk (fun hx => ?_) (fun hx => ?_)
    · have hx : k.sl[pl] = none := by
        cases hv : k.sl[pl] with
        | none => rfl
        | some d => rw [hv] at hx; simp at hx
      have hx? : k.sl[pl]? = some none := by rw [List.getElem?_eq_getElem hplk, hx]
      have hsl2 : sl' = k.sl.set pl (some p.data) := by rw [hsl']; unfold putS; rw [if_pos hx?]
      intro w15 hw15
      have ed15 := Ext.drew' hw15
      have h15 := h14.ext0 ed15
      have hwr15 := hwr.ext ed15 (by simp) (by simp) (by simp)
      have hwn15 := hwn.ext ed15
      have hrd15 := Rd.of_bk (i := 0) (vs := [.slice (some ⟨k.pb, 0, none⟩) n n, .slice (some ⟨k.tb, 0, none⟩) n n, .int .i64 ((leftOf k.sl : Nat) : Int)]) hwn15 rfl
      refine VNN.i (VLd.s ⟨some ⟨k.pb, 0, none⟩, n, n⟩ (hrd15.fld0 rfl) (VLd.i1 (t := .int .i64) p.place (Rd.of_bk h15.kp rfl) ?_))
      refine VNN.i (VLd.s ⟨some ⟨k.tb, 0, none⟩, n, n⟩ (hrd15.fld 1 rfl) (VLd.i1 (t := .int .i64) p.place (Rd.of_bk h15.kp rfl) (VLd.i1 (t := .str) p.data (Rd.of_bk h15.kp rfl) ?_)))
      rw [hpl]
      have hpp : pl < (psOf k.sl).length := by rw [psOf_len]; exact hplk
      have hrowP : Row w15 9 strR.k ⟨some ⟨k.pb, 0, none⟩, n, n⟩ (strR.cells (psOf k.sl)) := Row.of_bk hwr15.p (by rw [Rec.cells_len, psOf_len, hkl]) (by omega)
      have npw : k.pb ≠ k.wb := hwr15.p.neT hwr15.w (by decide)
      have npt : k.pb ≠ k.tb := hwr15.p.neT hwr15.t (by decide)
      have ntw : k.tb ≠ k.wb := hwr15.t.neT hwr15.w (by decide)
      have npp : k.pb ≠ pb := hwr15.p.neT h15.kp (by decide)
      have npt2 : k.tb ≠ pb := hwr15.t.neT h15.kp (by decide)
      have npw2 : k.wb ≠ pb := hwr15.w.neT h15.kp (by decide)
      refine Row.putR (r := strR) (j := 0) (vs := [.string p.data]) (x := p.data) hrowP hpp (by show 0 + 1 ≤ 1; omega) rfl rfl (fun a => by rw [add_zero]; rfl) fun w16 hrow16 e16 => ?_
      have e16 : Ext [k.pb] w15 w16 := e16.mono (fun i hi _ => by simpa [rowB] using hi)
      have hp16 : Bk w16 k.pb (strR.cells ((psOf k.sl).set pl p.data)) 9 := by
        obtain ⟨g1, g2, g3, g4⟩ := hrow16
        rcases g4 with ⟨g5, _⟩ | ⟨b, rest, g5, g6, g7⟩
        · cases g5
        · simp only [Option.some.injEq, Addr.mk.injEq] at g5
          obtain ⟨rfl, _⟩ := g5
          have hr0 : rest = [] := by
            apply List.eq_nil_of_length_eq_zero
            have : (strR.cells ((psOf k.sl).set pl p.data)).length = n * 1 := by rw [Rec.cells_len, List.length_set, psOf_len, hkl]; rfl
            have g7 : (strR.cells ((psOf k.sl).set pl p.data)).length + rest.length = n * 1 := g7
            omega
          rw [hr0, List.append_nil] at g6
          exact g6
      refine ⟨Rd.of_bk (h15.kp.ext e16 (by simpa using fun e => npp e.symm)) (by show [Value.int .i64 p.place] = _; rw [hpl]), ?_⟩
      have hw16 := hwn15.ext e16 (by simpa using fun e => npw e.symm)
      have ht16 := hwr15.t.ext e16 (by simpa using fun e => npt e.symm)
      have hrowT : Row w16 4 boolR.k ⟨some ⟨k.tb, 0, none⟩, n, n⟩ (boolR.cells (bsOf k.sl)) := Row.of_bk ht16 (by rw [Rec.cells_len, bsOf_len, hkl]) (by omega)
      refine Row.putR (r := boolR) (j := 0) (vs := [.bool true]) (x := true) hrowT hplb (by show 0 + 1 ≤ 1; omega) rfl rfl (fun a => by rw [add_zero]; rfl) fun w17 hrow17 e17 => ?_
      have e17 : Ext [k.tb] w16 w17 := e17.mono (fun i hi _ => by simpa [rowB] using hi)
      have ht17 : Bk w17 k.tb (boolR.cells ((bsOf k.sl).set pl true)) 4 := by
        obtain ⟨g1, g2, g3, g4⟩ := hrow17
        rcases g4 with ⟨g5, _⟩ | ⟨b, rest, g5, g6, g7⟩
        · cases g5
        · simp only [Option.some.injEq, Addr.mk.injEq] at g5
          obtain ⟨rfl, _⟩ := g5
          have hr0 : rest = [] := by
            apply List.eq_nil_of_length_eq_zero
            have : (boolR.cells ((bsOf k.sl).set pl true)).length = n * 1 := by rw [Rec.cells_len, List.length_set, bsOf_len, hkl]; rfl
            have g7 : (boolR.cells ((bsOf k.sl).set pl true)).length + rest.length = n * 1 := g7
            omega
          rw [hr0, List.append_nil] at g6
          exact g6
      have hw17 := hw16.ext e17 (by simpa using fun e => ntw e.symm)
      have hrd17 := Rd.of_bk (i := 0) (vs := [.slice (some ⟨k.pb, 0, none⟩) n n, .slice (some ⟨k.tb, 0, none⟩) n n, .int .i64 ((leftOf k.sl : Nat) : Int)]) hw17 rfl
      have hlb : leftOf k.sl ≤ k.sl.length := List.countP_le_length
      have hls := left_set (d := p.data) hx?
      rw [← hsl2] at hls
      refine VNN.i (VLd.i1 (t := .int .i64) ((leftOf k.sl : Nat) : Int) (hrd17.fld 2 rfl) (VNN.i ?_))
      rw [w64 (n := ((leftOf k.sl : Nat) : Int) - 1) (by omega)]
      simp only [add_blk]
      refine VSt.bk hw17 rfl (by simp) fun w18 hk18 e18 => ?_
      have hk18 : Bk w18 k.wb [.slice (some ⟨k.pb, 0, none⟩) n n, .slice (some ⟨k.tb, 0, none⟩) n n, .int .i64 ((leftOf sl' : Nat) : Int)] 72 := by
        have : ((leftOf k.sl : Nat) : Int) - 1 = ((leftOf sl' : Nat) : Int) := by omega
        rw [← this]
        exact hk18
      have e1518 : Ext [k.pb, k.tb, k.wb] w15 w18 := ((e16.mono (N := [k.pb, k.tb, k.wb]) (by simp)).then e17 (fun i hi _ => by simp at hi; subst hi; simp)).then e18 (fun i hi _ => by simp at hi; subst hi; simp)
      have hps : psOf sl' = (psOf k.sl).set pl p.data := by rw [hsl2]; unfold psOf; rw [List.map_set]; rfl
      have hbs : bsOf sl' = (bsOf k.sl).set pl true := by rw [hsl2]; unfold bsOf; rw [List.map_set]; rfl
      have hW : WRep w18 { k with sl := sl' } := by
        refine ⟨?_, ?_, ?_⟩
        · show Bk w18 k.wb [.slice (some ⟨k.pb, 0, none⟩) sl'.length sl'.length, .slice (some ⟨k.tb, 0, none⟩) sl'.length sl'.length, .int .i64 ((leftOf sl' : Nat) : Int)] 72
          rw [hln']; exact hk18
        · show Bk w18 k.pb (strR.cells (psOf sl')) 9
          rw [hps]
          exact (hp16.ext e17 (by simpa using npt)).ext e18 (by simpa using npw)
        · show Bk w18 k.tb (boolR.cells (bsOf sl')) 4
          rw [hbs]
          exact ht17.ext e18 (by simpa using ntw)
      have hJ := h15.jr.put hk e1518 hW hok'
      rw [hkw] at hJ
      have hin : ∀ b ∈ [k.pb, k.tb, k.wb], b ∈ jbs jb K2 mb os2 := fun b hb => by
        unfold jbs
        simp only [List.mem_cons, List.mem_append, List.mem_flatMap, List.not_mem_nil, or_false] at hb ⊢
        exact .inr (.inr (.inr ⟨k, hk, by rcases hb with h | h | h <;> simp [h]⟩))
      have z15 := h15.e.size
      refine ⟨hJ, h15.e.then e1518 (fun i hi hlt => ?_), by rw [setE_jbs]; exact h15.i, h15.kp.ext e1518 (fun hi => h15.np (hin _ hi)), h15.kw.ext e1518 (fun hi => h15.nw (hin _ hi)), by rw [setE_jbs]; exact h15.np, by rw [setE_jbs]; exact h15.nw⟩
      rcases h15.i i (hin i hi) with h' | h'
      · exact h'
      · omega
    · have hx : ¬ k.sl[pl]? = some none := by
        rw [List.getElem?_eq_getElem hplk]
        intro e
        simp only [Option.some.injEq] at e
        rw [e] at hx
        simp at hx
      have hsl2 : sl' = k.sl := by rw [hsl']; unfold putS; rw [if_neg hx]
      have hJ := h14.jr.put (W' := w14) hk (Ext.refl _ _) (sl := sl') (by rw [hsl2]; exact h14.jr.wr k hk) hok'
      rw [hkw] at hJ
      exact ⟨hJ, h14.e, by rw [setE_jbs]; exact h14.i, h14.kp, h14.kw, by rw [setE_jbs]; exact h14.np, by rw [setE_jbs]; exact h14.nw⟩
  intro w19 h19
  have hk' : { k with sl := sl' } ∈ setE K2 who sl' := by
    unfold setE
    refine List.mem_map.2 ⟨k, hk, ?_⟩
    rw [if_pos hkw]
  have hwr19 := h19.jr.wr _ hk'
  have hT : ∀ {P : Ab × List UInt8 × Bool × Int}, (if 0 < leftOf sl' then (setA (takeA2 (takeA1 (absE K) who p.count) who n) who sl', [], false, 0) else (dropA (takeA2 (takeA1 (absE K) who p.count) who n) who, joinS sl', true, 0)) = P → takeP (absE K) fr l = P := fun {P} hP => by
    rw [← hP]
    unfold takeP
    rw [if_neg (by simpa using hc), ← hp, if_neg hd, ← hwho, hn, hpl]
    simp only [Int.toNat_natCast]
    rw [← hn, hfs, Option.getD_some, ← hsl']
  have hw19 : Bk w19 k.wb [.slice (some ⟨k.pb, 0, none⟩) n n, .slice (some ⟨k.tb, 0, none⟩) n n, .int .i64 ((leftOf sl' : Nat) : Int)] 72 := by
    have := hwr19.w
    rw [show ({ k with sl := sl' } : KE).sl.length = n from hln'] at this
    exact this
  have hrd19 := Rd.of_bk (i := 0) (vs := [.slice (some ⟨k.pb, 0, none⟩) n n, .slice (some ⟨k.tb, 0, none⟩) n n, .int .i64 ((leftOf sl' : Nat) : Int)]) hw19 rfl
  refine VNN.i (VLd.i1 (t := .int .i64) ((leftOf sl' : Nat) : Int) (hrd19.fld 2 rfl) (VIf.mk (fun hl => ?_) (fun hl => ?_)))
  · have hl : 0 < leftOf sl' := by simp at hl; omega
    rw [hT (if_pos hl)]
    exact ⟨⟨none, 0, 0⟩, _, rfl, by rw [abs_set, hA2], OutR.nil _ _, h19.to⟩
  have hl : ¬ 0 < leftOf sl' := by simp at hl; omega
  rw [hT (if_neg hl)]
  refine VLd.i2 (t := .int .i64) (u := .int .i64) who.1 who.2 (Rd.of_bk h19.kw rfl) ?_
  refine VCall.i (forget_spec who h19.jr) ?_
  rintro e w20 ⟨rfl, hJ, hWR⟩
  refine exW.i0 rfl ?_
  obtain ⟨os3, F3, h20⟩ := h19.step hJ
  have hwr20 := hWR _ hk'
  intro w21 hw21
  have ed21 := Ext.drew' hw21
  have h21 := h20.ext0 ed21
  have hwr21 := hwr20.ext ed21 (by simp) (by simp) (by simp)
  have hw21 : Bk w21 k.wb [.slice (some ⟨k.pb, 0, none⟩) n n, .slice (some ⟨k.tb, 0, none⟩) n n, .int .i64 ((leftOf sl' : Nat) : Int)] 72 := by
    have := hwr21.w
    rw [show ({ k with sl := sl' } : KE).sl.length = n from hln'] at this
    exact this
  have hp21 : Bk w21 k.pb (strR.cells (psOf sl')) 9 := hwr21.p
  have hrd21 := Rd.of_bk (i := 0) (vs := [.slice (some ⟨k.pb, 0, none⟩) n n, .slice (some ⟨k.tb, 0, none⟩) n n, .int .i64 ((leftOf sl' : Nat) : Int)]) hw21 rfl
  have hpsl : (psOf sl').length = n := by rw [psOf_len, hln']
  refine VLd.i1 (t := .int .i64) p.count (Rd.of_bk h21.kp rfl) (VNN.i (VLd.s ⟨some ⟨k.pb, 0, none⟩, n, n⟩ (hrd21.fld0 rfl) (VLd.i1 (t := .int .i64) p.count (Rd.of_bk h21.kp rfl) ?_)))
  have hall := ps_all hl
  have hsz : ∀ i (hi : i < (psOf sl').length), ((psOf sl')[i]).size ≤ 380 ∧ (i + 1 < n → ((psOf sl')[i]).size = 380) := fun i hi => by
    have hi2 : i < sl'.length := by rw [psOf_len] at hi; exact hi
    obtain ⟨d, hd⟩ := hall i hi2
    have hg : (psOf sl')[i] = d := by rw [psOf_get, hd]; rfl
    rw [hg, ← hln']
    exact hok'.2.2 i d (by rw [List.getElem?_eq_getElem hi2, hd])
  have hlast : n - 1 < (psOf sl').length := by omega
  obtain ⟨tot, htot⟩ : ∃ tot, tot = 380 * (n - 1) + ((psOf sl')[n - 1]).size := ⟨_, rfl⟩
  have hz1 := (hsz (n - 1) hlast).1
  have hsegP : ∀ {w : World}, Bk w k.pb (strR.cells (psOf sl')) 9 → Seg w (some ⟨k.pb, 0, none⟩) n strR.k (strR.cells (psOf sl')) := fun hb => Seg.of_bk hb (by simp) (by rw [Rec.cells_len, hpsl])
  rw [hn, w64 (n := (n : Int) - 1) (by omega), show (n : Int) - 1 = ((n - 1 : Nat) : Int) by omega]
  refine VIx.i' (r := strR) (hsegP hp21) hlast fun a hr => VLd.i1 (t := .str) ((psOf sl')[n - 1]) hr ?_
  have hwt : IntKind.wrap .i64 ((IntKind.wrap .i64 (((n - 1 : Nat) : Int) * 380)) + ((((psOf sl')[n - 1]).size : Nat) : Int)) = (tot : Int) := by
    rw [w64 (n := ((n - 1 : Nat) : Int) * 380) (by omega), w64 (by omega)]
    omega
  rw [hwt]
  refine VMk.i (by omega) (by omega) (by omega) (by omega) fun bb w22 hbb hk22 e22 => ?_
  rw [Int.toNat_natCast] at hk22 ⊢
  have hk22 : Bk w22 bb (bc (preP (psOf sl') 0 ++ List.replicate (tot - 0) 0)) 5 := by
    rw [made8] at hk22
    exact hk22
  have hw22 := hw21.ext e22
  have hrd22 := Rd.of_bk (i := 0) (vs := [.slice (some ⟨k.pb, 0, none⟩) n n, .slice (some ⟨k.tb, 0, none⟩) n n, .int .i64 ((leftOf sl' : Nat) : Int)]) hw22 rfl
  refine VNN.i (VLd.s ⟨some ⟨k.pb, 0, none⟩, n, n⟩ (hrd22.fld0 rfl) ?_)
  have h22 := h21.ext0 e22
  have z21 := h21.e.size
  have hpre : ∀ m, m < n → (preP (psOf sl') m).length = 380 * m := fun m hm => preP_len _ m (by omega) fun i hi hlt => (hsz i hi).2 (by omega)
  have nbb : k.pb ≠ bb := by have := hp21.lt; omega
  refine ⟨fun kk i W3 => ∃ m : Nat, i = (m : Int) ∧ m ≤ n ∧ kk = n - m ∧ Bk W3 bb (bc (preP (psOf sl') m ++ List.replicate (tot - (preP (psOf sl') m).length) 0)) 5 ∧ Bk W3 k.pb (strR.cells (psOf sl')) 9 ∧ Ext [bb] w22 W3,
    ⟨_, 0, rfl, by omega, rfl, hk22, hp21.ext e22, Ext.refl _ _⟩, ?_⟩
  rintro kk i w23 ⟨m, rfl, hm, rfl, hk23, hp23, e23⟩
  refine VIf.mk (fun hx => ?_) (fun hx => ?_)
  · have hm' : m < n := by simp at hx; omega
    have hmp : m < (psOf sl').length := by omega
    refine VIx.i' (r := strR) (hsegP hp23) hmp fun a hr => VLd.i1 (t := .str) ((psOf sl')[m]) hr (VSet.i ?_)
    have hpm := hpre m hm'
    have hfit : ((psOf sl')[m]).size ≤ tot - 380 * m := by
      by_cases hml : m + 1 < n
      · have := (hsz m hmp).2 hml
        omega
      · obtain rfl : m = n - 1 := by omega
        omega
    rw [w64 (n := (m : Int) * 380) (by omega), show (m : Int) * 380 = ((380 * m : Nat) : Int) by omega]
    have h380 : 380 * m ≤ tot := by omega
    refine VCk.i (by omega) ?_
    have hmin : Nat.min ((psOf sl')[m]).size (tot - 380 * m) = ((psOf sl')[m]).size := Nat.min_eq_left hfit
    rw [Int.toNat_natCast, hmin, w64 (n := (m : Int) + 1) (by omega)]
    have hnews : (strCells ((psOf sl')[m])).take ((psOf sl')[m]).size = bc ((psOf sl')[m]).data.toList := by
      rw [bc_str, List.take_of_length_le]
      rw [bc_len, ← ba_size]; exact Nat.le_refl _
    rw [hnews]
    have hnl : (bc ((psOf sl')[m]).data.toList).length = ((psOf sl')[m]).size := by rw [bc_len, ← ba_size]
    have hnext : preP (psOf sl') (m + 1) = preP (psOf sl') m ++ ((psOf sl')[m]).data.toList := preP_succ _ m hmp
    have hfin : ∀ {W3 : World}, Bk W3 bb (bc (preP (psOf sl') m ++ ((psOf sl')[m]).data.toList ++ List.replicate (tot - 380 * m - ((psOf sl')[m]).size) 0)) 5 → Ext [bb] w23 W3 → ∃ k', k' < n - m ∧ ∃ m_1 : Nat, ((m : Int) + 1 = (m_1 : Int)) ∧ m_1 ≤ n ∧ k' = n - m_1 ∧ Bk W3 bb (bc (preP (psOf sl') m_1 ++ List.replicate (tot - (preP (psOf sl') m_1).length) 0)) 5 ∧ Bk W3 k.pb (strR.cells (psOf sl')) 9 ∧ Ext [bb] w22 W3 := fun hb e => by
      refine ⟨_, (show n - (m + 1) < n - m by omega), m + 1, by omega, by omega, rfl, ?_, hp23.ext e (by simpa using nbb), e23.then e (fun i hi _ => hi)⟩
      rw [hnext, List.length_append, hpm, ← ba_size, Nat.sub_add_eq]
      exact hb
    refine ⟨_, rfl, by rw [hnl, hmin]; omega, ?_⟩
    by_cases h0 : ((psOf sl')[m]).size = 0
    · refine .inl ⟨by rw [hmin]; exact h0, fun w' hw => ?_⟩
      subst hw
      have hd0 : ((psOf sl')[m]).data.toList = [] := List.eq_nil_of_length_eq_zero (by rw [← ba_size]; exact h0)
      refine hfin ?_ (Ext.refl _ _)
      rw [hd0, List.append_nil, h0, Nat.sub_zero, ← hpm]
      exact hk23
    · have hbl : (bc (preP (psOf sl') m ++ List.replicate (tot - (preP (psOf sl') m).length) 0)).length = tot := by
        rw [bc_len, List.length_append, List.length_replicate, hpm]; omega
      have hcut : cutB (some ⟨bb, 0, none⟩) tot 1 (380 * m) = some ⟨bb, 380 * m, none⟩ := by
        unfold cutB
        rw [if_neg (by omega)]
        simp
      refine .inr ⟨⟨bb, 380 * m, none⟩, hcut, bc_one _, Wr.of_bk hk23 (by rw [hnl, hbl]; omega), fun w' hw => ?_⟩
      obtain ⟨hk', e'⟩ := sets_bk hk23 (by rw [hnl, hbl]; omega) hw
      refine hfin ?_ e'
      have hb1 : (bc (preP (psOf sl') m ++ List.replicate (tot - (preP (psOf sl') m).length) 0)).take (380 * m) = bc (preP (psOf sl') m) := by
        rw [bc_take, ← hpm, List.take_left]
      have hb2 : (bc (preP (psOf sl') m ++ List.replicate (tot - (preP (psOf sl') m).length) 0)).drop (380 * m + (bc ((psOf sl')[m]).data.toList).length) = bc (List.replicate (tot - 380 * m - ((psOf sl')[m]).size) 0) := by
        rw [hnl, bc_drop, ← List.drop_drop, ← hpm, List.drop_left, List.drop_replicate]
      rw [hb1, hb2, ← bc_app, ← bc_app] at hk'
      exact hk'
  · have hmm : m = n := by simp at hx; omega
    subst hmm
    have hj : joinS sl' = preP (psOf sl') m := by rw [joinS_pre, hln']
    have hjl : (preP (psOf sl') m).length = tot := by
      have h1 : preP (psOf sl') m = preP (psOf sl') (m - 1) ++ ((psOf sl')[m - 1]).data.toList := by
        have := preP_succ (psOf sl') (m - 1) hlast
        rw [show m - 1 + 1 = m by omega] at this
        exact this
      rw [h1, List.length_append, hpre (m - 1) (by omega), ← ba_size]
      omega
    have hbb : bb ∉ jbs jb (dropE (setE K2 who sl') who) mb os3 := fun hb => by
      have := (h21.jr.old bb hb).2
      omega
    refine ⟨⟨some ⟨bb, 0, none⟩, tot, tot⟩, dropE (setE K2 who sl') who, rfl, ?_, ⟨by rw [hj, hjl], .inr ⟨bb, [], rfl, ?_, by omega⟩⟩, os3, F3, h22.jr.ext e23 (fun b hb hm => by simp at hm; subst hm; exact hbb hb), h22.e.then e23 (fun i hi hlt => by simp at hi; omega), h22.i⟩
    · rw [abs_drop, abs_set, drop_set, hA2, hn]
    · rw [hj, List.append_nil]
      rw [hjl, Nat.sub_self, List.replicate_zero, List.append_nil] at hk23
      exact hk23
end
end Go.Proofs.Ythpbkkjggnejcaa
