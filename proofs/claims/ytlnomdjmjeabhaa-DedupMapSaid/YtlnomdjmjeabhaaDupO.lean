/-
  Package dedup: DedupMap.
-/
import Derived.Test.YtlnomdjmjeabhaaDupL
import Derived.Test.YtlnomdjmjeabhaaMapC
namespace Go.Proofs.Ytlnomdjmjeabhaa
open Go.RowKit
set_option maxRecDepth 100000

theorem rising_spec (s : Sl) (m : List Pr) (w : World) (h : InR prR w s m) (hr : rises m) : Calls Try.prog 27 #[.slice s.base s.len s.cap] w fun e w' => e = .returned (.bool true) ∧ Ext [] w w' := by
  refine sh_butterylaw09_rising_ok _ _ _ ?_
  unfold sh_butterylaw09_rising
  have hl := h.len
  have hcap := h.2
  refine ⟨fun kk i W => ∃ j : Nat, i = (j : Int) ∧ 1 ≤ j ∧ kk = m.length - j ∧ (j ≤ m.length ∨ j = 1) ∧ Ext [] w W, ⟨_, 1, rfl, by omega, rfl, .inr rfl, Ext.refl _ _⟩, ?_⟩
  rintro kk i w1 ⟨j, rfl, hj, rfl, hjm, e1⟩
  refine VIf.mk (fun hc => ?_) (fun hc => ⟨rfl, e1⟩)
  have hj' : j < m.length := by simp at hc; omega
  intro w2 hw2
  have e2 := e1.then0 (Ext.drew' hw2)
  have h2 := h.ext0 e2
  rw [w64 (n := (j : Int) - 1) (by omega), show (j : Int) - 1 = ((j - 1 : Nat) : Int) by omega]
  refine VIx.rd (r := prR) h2.1 (show j - 1 < m.length by omega) fun a hra => ?_
  refine VLd.i1 (t := .str) (m[j - 1]).1 (by rw [Int.toNat_natCast]; exact hra.fld0 rfl) ?_
  refine VIx.rd (r := prR) h2.1 hj' fun a' hrb => ?_
  refine VLd.i1 (t := .str) (m[j]).1 (by rw [Int.toNat_natCast]; exact hrb.fld0 rfl) ?_
  have hlt : Op.bytesLess (m[j - 1]).1.toList (m[j]).1.toList = true := by
    have := rises_adj hr (j - 1) (by omega)
    simp only [show j - 1 + 1 = j by omega] at this
    exact this
  refine VIf.f (by rw [hlt]; rfl) ?_
  exact VSet.i ⟨_, (show m.length - (j + 1) < m.length - j by omega), j + 1, w64 (n := (j : Int) + 1) (by omega), by omega, rfl, by omega, e2⟩
def woR : Rec Wo := ⟨fun o => [.int .u8 o.kind, .string o.key, .string o.value, .string o.old, .bool o.had], 5, fun _ => rfl, fun _ => rfl, by omega⟩
theorem ba_self (s : ByteArray) : (s == s) = true := by simp [MapKept.bytes_beq]
def kpK : KeysP Try.prog 50 9 52 ByteArray ByteArray where
  f k := .string k
  g v := .agg #[.string v]
  z := ByteArray.empty
  kind := .string
  und := by kernel_rfl
  undk := by kernel_rfl
  zero w := zero_run (by kernel_rfl) w
  check w em a := pureU_run _ (by kernel_rfl) w
  now a b := by show some (a == b) = some (decide (a = b)); congr 1; rw [Bool.eq_iff_iff, decide_eq_true_eq]; exact MapKept.bytes_beq a b
  stay a := by simp [Instr.sameBits, ba_self]
/-- what a list tells of a key -/
def tells (m : List Pr) (k : ByteArray) : Option ByteArray := (fstP m k).map (·.2)
theorem tells_has (m : List Pr) (k : ByteArray) : (tells m k).isSome = hasP m k := by unfold tells hasP; cases fstP m k <;> rfl
theorem tells_val (m : List Pr) (k : ByteArray) : (tells m k).getD ByteArray.empty = valP m k := by unfold tells valP; cases fstP m k <;> rfl
theorem getE_no {κ ν : Type} [DecidableEq κ] {k : κ} : ∀ {E : List (κ × ν)}, getE E k = none → ∀ p ∈ E, p.1 ≠ k
  | [], _, p, hp => by cases hp
  | q :: E, h, p, hp => by
    simp only [getE] at h
    split at h
    · cases h
    · rename_i hne
      rcases List.mem_cons.1 hp with rfl | hp
      · exact hne
      · exact getE_no h p hp
theorem TbN.count {w : World} {b n : Nat} {m : List Pr} (h : TbN kpK w b (tells m) n) (hr : rises m) : n = m.length := by
  obtain ⟨E, B, _, hun, hF, hn⟩ := h
  rw [← hn]
  refine (keys_len hr hun fun k => ?_).symm
  have h1 := hF k
  have h2 := fstP_none (m := m) (k := k)
  constructor
  · intro hk
    have h3 : fstP m k ≠ none := fun e => (h2.1 e) hk
    have h4 : getE E k ≠ none := by
      rw [h1]; unfold tells
      cases hq : fstP m k with
      | none => exact absurd hq h3
      | some p => simp
    apply Classical.byContradiction
    intro hno
    exact h4 (getE_none fun p hp e => hno (List.mem_map.2 ⟨p, hp, e⟩))
  · intro hk
    apply Classical.byContradiction
    intro hno
    have h3 : fstP m k = none := h2.2 hno
    have h4 : getE E k = none := by rw [h1]; unfold tells; rw [h3]; rfl
    obtain ⟨p, hp, hpk⟩ := List.mem_map.1 hk
    exact getE_no h4 p hp hpk
theorem OwnR.notmap {α : Type} {r : Rec α} {e : TypeId} {w0 w : World} {s : Sl} {L : List α} {b n : Nat} {F : ByteArray → Option ByteArray} (h : OwnR r e w0 w s L) (k : TbN kpK w b F n) : ∀ i ∈ rowB s, i ∉ [b] := fun i hi hm => by
  simp at hm; subst hm
  obtain ⟨_, hz⟩ := h.1.bk_of hi
  exact k.ne hz rfl
theorem VRun.tb {w : World} {b n : Nat} {F : ByteArray → Option ByteArray} {k : ByteArray} {K : ByteArray → Bool → World → Prop} (h : TbN kpK w b F n) (kk : K ((F k).getD ByteArray.empty) (F k).isSome w) :
    VRun none Try.prog (Instr.lookup 50 (.map (some b)) (.string k) true) w (.tuple #[.agg #[.string ByteArray.empty], .bool false]) fun (e0 : ByteArray) (e1 : Bool) (w' : World) => K e0 e1 w' :=
  ⟨_, _, h.lookup k, exW.i2 (t := .str) (u := .bool) ((F k).getD ByteArray.empty) (F k).isSome rfl kk⟩
set_option maxHeartbeats 1000000 in
theorem Map_law (s : Sl) (L : List Wo) (w : World) (h : InR woR w s L) (hk : ∀ o ∈ L, 0 ≤ o.kind ∧ o.kind ≤ 255) : Calls Try.prog 5 #[.slice s.base s.len s.cap] w fun e w' => e = .returned (.bool true) ∧ Ext [] w w' := by
  refine sh_butterylaw09_DedupMap_ok _ _ _ ?_
  unfold sh_butterylaw09_DedupMap
  have hl := h.len
  refine VCall.i (works_spec w) ?_
  rintro e w1 ⟨rfl, e1⟩
  refine exW.i1 (t := .bool) true rfl (VIf.mk (fun hc => ?_) (fun hc => ?_))
  · refine VCall.i (works_spec w1) ?_
    rintro e w2 ⟨rfl, e2⟩
    exact exW.i1 (t := .bool) true rfl ⟨rfl, e1.then0 e2⟩
  have hlen : L.length ≤ 300 := by rw [hl] at hc; simp at hc; omega
  intro b24 w3 hn3
  have hT3 : TbN kpK w3 b24 (tells []) 0 := TbN.new hn3
  have e3 := e1.then0 hn3.ext
  have hb24 : w.heap.size ≤ b24 := by have := e1.size; have := hn3.at_; omega
  refine ⟨fun kk c i W => ∃ (j : Nat) (m : List Pr), i = (j : Int) ∧ j ≤ L.length ∧ kk = L.length - j ∧ OwnR prR 36 w W c m ∧ m.length ≤ j ∧ rises m ∧ TbN kpK W b24 (tells m) m.length ∧ Ext [] w W,
    ⟨_, 0, [], rfl, by omega, rfl, OwnR.nil _ _ _ _, Nat.le_refl _, rises_nil, hT3, e3⟩, ?_⟩
  rintro kk c i w4 ⟨j, m, rfl, hj, rfl, hO, hmj, hr, hT, e04⟩
  refine VIf.mk (fun hd => ?_) (fun hd => ?_)
  · have hj' : j < L.length := by simp at hd; omega
    have hk := hk _ (List.getElem_mem hj')
    obtain ⟨o, ho⟩ : ∃ o, o = L[j] := ⟨_, rfl⟩
    rw [← ho] at hk
    refine ⟨fun c' W => ∃ m' : List Pr, OwnR prR 36 w W c' m' ∧ m'.length ≤ j + 1 ∧ rises m' ∧ TbN kpK W b24 (tells m') m'.length ∧ Ext [] w W, ?_, ?_⟩
    · refine VIx.rd (r := woR) (h.ext0 e04).1 hj' fun a hra => ?_
      rw [← ho] at hra
      refine ⟨o.kind, o.key, o.value, o.old, o.had, gd.i (by rw [Int.toNat_natCast]; exact hra), ?_⟩
      refine VNw.i fun ob w5 hob hk5 e5 => VSt.bk hk5 rfl (by simp) fun w6 hk6 e6 => ?_
      have hk6 : Bk w6 ob (woR.f o) 24 := hk6
      refine ⟨o.kind, o.key, o.value, o.old, o.had, gd.i (Rd.of_bk hk6 rfl), ?_⟩
      have e46 : Ext [] w4 w6 := e5.then e6 (fun i hi hlt => by simp at hi; omega)
      have z4 := e04.size
      have z46 := e46.size
      refine VCall.i (Do_spec c m o w6 (hO.ext0 e46).in_ hk (by omega)) ?_
      rintro e w7 ⟨ra, rfl, hA, e7⟩
      refine ⟨ra, (doO m o).2.1.1, (doO m o).2.1.2.1, (doO m o).2.1.2.2, (doO m o).2.2, rfl, ?_⟩
      refine VNw.i fun rb w8 hrb hr8 e8 => VSt.bk hr8 rfl (by simp) fun w9 hr9 e9 => ?_
      have hr9 : Bk w9 rb [.int .u8 (doO m o).2.1.1, .bool (doO m o).2.1.2.1, .string (doO m o).2.1.2.2] 31 := hr9
      have z7 := e7.size
      have z8 := e8.size
      have e79 : Ext [] w7 w9 := e8.then e9 (fun i hi hlt => by simp at hi; omega)
      have e49 := (e46.then0 e7).then0 e79
      have e09 := e04.then0 e49
      have hk9 := (hk6.ext e7).ext e79
      have hT9 := hT.ext e49 (by simp)
      refine VSet.i (VIf.mk (fun he => ?_) (fun he => ?_))
      · exact ⟨m, hO.ext0 e49, by omega, hr, hT9, e09⟩
      have he0 : checkO o = 0 := by
        apply Classical.byContradiction
        intro hne
        rw [doO_bad hne] at he
        simp at he
        exact hne he
      have hdo := doO_ok (m := m) he0
      rw [hdo] at hr9 hA
      have hr9 : Bk w9 rb [.int .u8 (doR m o).1, .bool (doR m o).2.1, .string (doR m o).2.2] 31 := hr9
      have hA9 : OwnR prR 36 w w9 ra (doM m o) := (hA.mono (by omega)).ext0 e79
      refine VLd.i1 (t := .str) o.key (Rd.of_bk hk9 rfl) (VRun.tb hT9 ?_)
      rw [tells_val, tells_has]
      refine VNw.i fun vb w11 hvb hv11 e11 => VSt.bk hv11 rfl (by simp) fun w12 hv12 e12 => ?_
      have hv12 : Bk w12 vb [.string (valP m o.key)] 52 := hv12
      have e912 : Ext [] w9 w12 := e11.then e12 (fun i hi hlt => by simp at hi; omega)
      have hk12 := hk9.ext e912
      have hr12 := hr9.ext e912
      have hT12 := hT9.ext e912 (by simp)
      have hA12 := hA9.ext0 e912
      have e012 := e09.then0 e912
      refine VLd.i1 (t := .int .u8) o.kind (Rd.of_bk hk12 rfl) ?_
      have hrd := rises_do hr o
      -- the map as it is then
      refine ⟨fun W => OwnR prR 36 w W ra (doM m o) ∧ TbN kpK W b24 (tells (doM m o)) (doM m o).length ∧ Ext [] w W, ?_, ?_⟩
      · have same : doM m o = m → OwnR prR 36 w w12 ra (doM m o) ∧ TbN kpK w12 b24 (tells (doM m o)) (doM m o).length ∧ Ext [] w w12 := fun hm => ⟨hA12, by rw [hm]; exact hT12, e012⟩
        have upd : ∀ {W' : World} {F : ByteArray → Option ByteArray} {n : Nat}, TbN kpK W' b24 F n → (∀ c, F c = tells (doM m o) c) → Ext [b24] w12 W' → OwnR prR 36 w W' ra (doM m o) ∧ TbN kpK W' b24 (tells (doM m o)) (doM m o).length ∧ Ext [] w W' := fun hT' hF e' => by
          have := hT'.same hF rfl
          have hc := this.count hrd
          exact ⟨hA12.ext e' (hA12.notmap hT12), by rw [hc] at this; exact this, e012.then e' (fun i hi hlt => by simp at hi; omega)⟩
        have put : ∀ {v : ByteArray} {W : World → Prop}, doM m o = putP m (o.key, v) → (∀ W', (OwnR prR 36 w W' ra (doM m o) ∧ TbN kpK W' b24 (tells (doM m o)) (doM m o).length ∧ Ext [] w W') → W W') →
            VRunU none Try.prog (Instr.mapUpdate 50 (.map (some b24)) (.string o.key) (.agg #[.string v])) w12 fun (w13 : World) => W w13 := fun {v W} hm k => by
          obtain ⟨W', hrun, hT', e'⟩ := hT12.update o.key v
          refine ⟨W', hrun, k W' (upd hT' (fun c => ?_) e')⟩
          rw [hm]; unfold tells
          rw [fstP_put]
          show (if o.key = c then some v else tells m c) = _
          by_cases hq : o.key = c
          · rw [if_pos hq, if_pos hq]; rfl
          · rw [if_neg hq, if_neg hq]; rfl
        refine VIf.mk (fun h1 => ?_) (fun h1 => ?_)
        · have h1 : o.kind = 1 := by simpa using h1
          obtain ⟨hm, hrr⟩ := do1 (m := m) h1
          rw [hrr] at hr12
          refine VLd.i1 (t := .bool) (hasP m o.key) (Rd.of_bk hr12 rfl) (VLd.i1 (t := .str) (valP m o.key) (Rd.of_bk hr12 rfl) (VLd.i1 (t := .str) (valP m o.key) (Rd.of_bk hv12 rfl) (VIf.f (by simp) (same hm))))
        have h1 : ¬ o.kind = 1 := by simpa using h1
        refine VIf.mk (fun h2 => ?_) (fun h2 => ?_)
        · have h2 : o.kind = 2 := by simpa using h2
          obtain ⟨hm, hrr⟩ := do2 (m := m) h2
          exact VLd.i1 (t := .str) o.key (Rd.of_bk hk12 rfl) (VLd.i1 (t := .str) o.value (Rd.of_bk hk12 rfl) (put hm fun W' hW => hW))
        have h2 : ¬ o.kind = 2 := by simpa using h2
        refine VIf.mk (fun h3 => ?_) (fun h3 => ?_)
        · have h3 : o.kind = 3 := by simpa using h3
          obtain ⟨hm, hrr⟩ := do3 (m := m) h3
          rw [hrr] at hr12
          refine VLd.i1 (t := .bool) (hasP m o.key) (Rd.of_bk hr12 rfl) (VIf.f (by simp) (VLd.i1 (t := .str) o.key (Rd.of_bk hk12 rfl) ?_))
          obtain ⟨W', hrun, hT', e'⟩ := hT12.del o.key (ty := 0)
          refine ⟨_, W', hrun, exW.i0 rfl (upd hT' (fun c => ?_) e')⟩
          rw [hm]; unfold tells
          rw [fstP_del]
          show (if o.key = c then none else tells m c) = _
          by_cases hq : o.key = c
          · rw [if_pos hq, if_pos hq]; rfl
          · rw [if_neg hq, if_neg hq]; rfl
        have h3 : ¬ o.kind = 3 := by simpa using h3
        have h4 : o.kind = 4 := by have := kinds he0; omega
        refine VLd.i1 (t := .bool) o.had (Rd.of_bk hk12 rfl) (VLd.i1 (t := .str) (valP m o.key) (Rd.of_bk hv12 rfl) (VLd.i1 (t := .str) o.old (Rd.of_bk hk12 rfl) ?_))
        rw [ba_beq]
        have hfit : ((hasP m o.key == o.had) && (!hasP m o.key || decide (valP m o.key = o.old))) = fits m o := rfl
        rw [hfit]
        cases hf : fits m o with
        | true =>
          obtain ⟨hm, hrr⟩ := do4t (m := m) h4 hf
          rw [hrr] at hr12
          refine VLd.i1 (t := .bool) true (Rd.of_bk hr12 rfl) (VIf.f (by simp) (VIf.t rfl ?_))
          exact VLd.i1 (t := .str) o.key (Rd.of_bk hk12 rfl) (VLd.i1 (t := .str) o.value (Rd.of_bk hk12 rfl) (put hm fun W' hW => hW))
        | false =>
          obtain ⟨hm, hrr⟩ := do4f (m := m) h4 hf
          rw [hrr] at hr12
          exact VLd.i1 (t := .bool) false (Rd.of_bk hr12 rfl) (VIf.f (by simp) (VIf.f rfl (same hm)))
      · rintro w16 ⟨hA16, hT16, e016⟩
        refine VCall.i (rising_spec ra (doM m o) w16 hA16.in_ hrd) ?_
        rintro e w17 ⟨rfl, e17⟩
        refine exW.i1 (t := .bool) true rfl ?_
        have hT17 := hT16.ext e17 (by simp)
        refine ⟨fun _ => ⟨_, w17, hT17.len, exW.i1 (t := .int .i64) (((doM m o).length : Nat) : Int) rfl ?_⟩, fun hq => by simp at hq⟩
        have hla := hA16.len
        refine VIf.f (by rw [hla]; simp) ?_
        have := do_len m o
        exact ⟨doM m o, hA16.ext0 e17, by omega, hrd, hT17, e016.then0 e17⟩
    · rintro c' w19 ⟨m', hO', hl', hr', hT', e'⟩
      exact VSet.i ⟨_, (show L.length - (j + 1) < L.length - j by omega), j + 1, m', w64 (n := (j : Int) + 1) (by omega), by omega, rfl, hO', hl', hr', hT', e'⟩
  · have hcl := hO.len
    have hcc := hO.cap
    refine ⟨fun kk i W => ∃ q : Nat, i = (q : Int) ∧ q ≤ m.length ∧ kk = m.length - q ∧ OwnR prR 36 w W c m ∧ TbN kpK W b24 (tells m) m.length ∧ Ext [] w W, ⟨_, 0, rfl, by omega, rfl, hO, hT, e04⟩, ?_⟩
    rintro kk i w20 ⟨q, rfl, hq, rfl, hO2, hT2, e020⟩
    refine VIf.mk (fun hd2 => ?_) (fun hd2 => ⟨rfl, e020⟩)
    have hq' : q < m.length := by simp at hd2; omega
    refine VIx.rd (r := prR) hO2.seg hq' fun a hra => ?_
    refine VLd.i1 (t := .str) (m[q]).1 (by rw [Int.toNat_natCast]; exact hra.fld0 rfl) (VRun.tb hT2 ?_)
    have ht : tells m (m[q]).1 = some (m[q]).2 := by unfold tells; rw [fstP_at hr q hq']; rfl
    rw [ht]
    refine VNw.i fun vb w22 hvb hv22 e22 => VSt.bk hv22 rfl (by simp) fun w23 hv23 e23 => ?_
    have hv23 : Bk w23 vb [.string (m[q]).2] 52 := hv23
    intro w24 hw24
    have e2024 : Ext [] w20 w24 := (e22.then e23 (fun i hi hlt => by simp at hi; omega)).then0 (Ext.drew' hw24)
    have hO24 := hO2.ext0 e2024
    refine VLd.i1 (t := .str) (m[q]).2 (Rd.of_bk (hv23.ext (Ext.drew' hw24)) rfl) ?_
    refine VIx.rd (r := prR) hO24.seg hq' fun a' hrb => ?_
    refine VLd.i1 (t := .str) (m[q]).2 (by rw [Int.toNat_natCast]; exact hrb.fld 1 rfl) (VIf.f (by simp) ?_)
    exact VSet.i ⟨_, (show m.length - (q + 1) < m.length - q by omega), q + 1, w64 (n := (q : Int) + 1) (by omega), by omega, rfl, hO24, hT2.ext e2024 (by simp), e020.then0 e2024⟩
end Go.Proofs.Ytlnomdjmjeabhaa
