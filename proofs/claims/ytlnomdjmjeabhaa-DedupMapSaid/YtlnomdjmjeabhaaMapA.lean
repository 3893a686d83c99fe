/-
  A map that the call itself made: looked up, entered, stored. The map's keys are records of one kind.
-/
import Derived.Test.YtlnomdjmjeabhaaEngW
import Derived.WideKeyRuns
import Derived.ChangeMaps5
namespace Go.Proofs.Ytlnomdjmjeabhaa
open Go.RowKit
set_option maxRecDepth 100000

/-- a run that does nothing -/
def pureU (P : Program) : Sem Unit → Bool
  | .pure () => true
  | .program k => pureU P (k P)
  | .mark _ k => pureU P k
  | _ => false
theorem pureU_run {P : Program} (s : Sem Unit) (h : pureU P s = true) (w : World) : s.run P w = .ok () w := by
  induction s with
  | pure n => rfl
  | program k ih => exact ih P (by simpa [pureU] using h)
  | mark m k ih => exact ih (by simpa [pureU] using h)
  | _ => simp [pureU] at h

/-- keys of one kind, and values -/
structure Keys (P : Program) (t kt et : TypeId) (κ ν : Type) where
  f : κ → Value
  g : ν → Value
  z : ν
  und : P.underlying t = some (.map kt et)
  zero : ∀ w : World, (zeroValue et).run P w = .ok (g z) w
  wide : (match P.underlying kt with | some (.array _ _) | some (.struct _) => true | _ => false) = true
  check : ∀ (w : World) (em : Bool) (a : κ), (Instr.checkKey em 10000 kt (f a)).run P w = .ok () w
  eq : ∀ (w : World) (a b : κ), ∃ r, (Op.equal kt (f a) (f b)).run P w = .ok r w ∧ (r = true ↔ a = b)
  stay : ∀ a : κ, Instr.sameBits 10000 (f a) (f a) = true

section
variable {P : Program} {t kt et : TypeId} {κ ν : Type} [DecidableEq κ] (Ks : Keys P t kt et κ ν)
def getE : List (κ × ν) → κ → Option ν
  | [], _ => none
  | p :: r, a => if p.1 = a then some p.2 else getE r a
theorem getE_at {E : List (κ × ν)} {a : κ} {j : Nat} (hj : j < E.length) (h : (E[j]).1 = a) (hf : ∀ i (hi : i < j), (E[i]'(by omega)).1 ≠ a) : getE E a = some (E[j]).2 := by
  induction E generalizing j with
  | nil => simp at hj
  | cons p r ih =>
    cases j with
    | zero => simp at h; simp [getE, h]
    | succ j =>
      have h0 := hf 0 (by omega)
      simp at h0
      simp only [getE, if_neg h0, List.getElem_cons_succ]
      exact ih (by simpa using hj) (by simpa using h) fun i hi => by simpa using hf (i + 1) (by omega)
theorem getE_none {E : List (κ × ν)} {a : κ} (h : ∀ p ∈ E, p.1 ≠ a) : getE E a = none := by
  induction E with
  | nil => rfl
  | cons p r ih => simp only [getE, if_neg (h p (by simp))]; exact ih fun q hq => h q (by simp [hq])
theorem getE_app {E : List (κ × ν)} {a c : κ} {v : ν} : getE (E ++ [(a, v)]) c = (getE E c).or (if a = c then some v else none) := by
  induction E with
  | nil => simp [getE]
  | cons p r ih =>
    simp only [List.cons_append, getE]
    split
    · rfl
    · exact ih
theorem getE_set {E : List (κ × ν)} {a : κ} {j : Nat} (hj : j < E.length) (h : (E[j]).1 = a) (hf : ∀ i (hi : i < j), (E[i]'(by omega)).1 ≠ a) (v : ν) (c : κ) : getE (E.set j (a, v)) c = if a = c then some v else getE E c := by
  induction E generalizing j with
  | nil => simp at hj
  | cons p r ih =>
    cases j with
    | zero =>
      simp at h
      subst h
      simp only [List.set_cons_zero, getE]
      split <;> rfl
    | succ j =>
      have h0 := hf 0 (by omega)
      simp at h0
      simp only [List.set_cons_succ, getE]
      rw [ih (by simpa using hj) (by simpa using h) fun i hi => by simpa using hf (i + 1) (by omega)]
      by_cases hpc : p.1 = c
      · rw [if_pos hpc, if_pos hpc, if_neg (fun e => h0 (hpc.trans e.symm))]
      · rw [if_neg hpc, if_neg hpc]

theorem find_run (w : World) (a : κ) : ∀ (es : List MapEntry) (E : List (κ × ν)) (i : Nat), es.map (fun e => (e.key, e.val)) = E.map (fun p => (Ks.f p.1, Ks.g p.2)) →
    (∃ j, ∃ hj : j < E.length, (E[j]).1 = a ∧ (∀ i (hi : i < j), (E[i]'(by omega)).1 ≠ a) ∧ (Instr.findAsking kt (Ks.f a) es i).run P w = .ok (some (i + j, Ks.g (E[j]).2)) w) ∨
    ((∀ p ∈ E, p.1 ≠ a) ∧ (Instr.findAsking kt (Ks.f a) es i).run P w = .ok none w)
  | [], E, i, h => by
    cases E with
    | nil => exact .inr ⟨by simp, by simp [Instr.findAsking]⟩
    | cons _ _ => simp at h
  | e :: es, [], i, h => by simp at h
  | e :: es, p :: E, i, h => by
    simp only [List.map_cons, List.cons.injEq, Prod.mk.injEq] at h
    obtain ⟨⟨hk, hv⟩, ht⟩ := h
    obtain ⟨r, hr, hiff⟩ := Ks.eq w a p.1
    rw [← hk] at hr
    by_cases hap : a = p.1
    · have hrt : r = true := hiff.2 hap
      subst hrt
      refine .inl ⟨0, by simp, by simp [hap], fun i hi => by omega, ?_⟩
      simp [Instr.findAsking, hr, hv]
    · have hrf : r = false := by cases hb : r with | false => rfl | true => exact absurd (hiff.1 hb) hap
      subst hrf
      rcases find_run w a es E (i + 1) ht with ⟨j, hj, h1, h2, h3⟩ | ⟨h1, h2⟩
      · refine .inl ⟨j + 1, by simpa using hj, by simpa using h1, fun i hi => ?_, ?_⟩
        · cases i with
          | zero => simpa using fun e => hap e.symm
          | succ i => simpa using h2 i (by omega)
        · simp [Instr.findAsking, hr, h3]; omega
      · refine .inr ⟨fun q hq => ?_, ?_⟩
        · rcases List.mem_cons.1 hq with rfl | hq
          · exact fun e => hap e.symm
          · exact h1 q hq
        · simp [Instr.findAsking, hr, h2]

/-- block b is a map of these entries, and their stamps -/
def Mp (w : World) (b : Nat) (E : List (κ × ν)) (B : List Nat) : Prop :=
  ∃ es clock, w.heap[b]? = some (.map es clock) ∧ es.toList.map (fun e => (e.key, e.val)) = E.map (fun p => (Ks.f p.1, Ks.g p.2)) ∧ es.toList.map (·.born) = B ∧ B.Nodup ∧ ∀ x ∈ B, x < clock
/-- block b is a map that tells F -/
def Tb (w : World) (b : Nat) (F : κ → ν) : Prop := ∃ E B, Mp Ks w b E B ∧ ∀ c, (getE E c).getD Ks.z = F c
/-- .. and stamp st is that of a's entry -/
def TbS (w : World) (b : Nat) (F : κ → ν) (a : κ) (st : Nat) : Prop :=
  ∃ E B, Mp Ks w b E B ∧ (∀ c, (getE E c).getD Ks.z = F c) ∧ ∃ j, ∃ hj : j < E.length, (E[j]).1 = a ∧ (∀ i (hi : i < j), (E[i]'(by omega)).1 ≠ a) ∧ B[j]? = some st
variable {Ks} {w w' : World} {b : Nat} {F : κ → ν} {a : κ} {st : Nat}
theorem Tb.new (h : NewB w b (.map #[] 0) w') : Tb Ks w' b (fun _ => Ks.z) := ⟨[], [], ⟨#[], 0, h.get, rfl, rfl, List.nodup_nil, by simp⟩, fun c => rfl⟩
theorem TbS.tb (h : TbS Ks w b F a st) : Tb Ks w b F := by obtain ⟨E, B, h1, h2, _⟩ := h; exact ⟨E, B, h1, h2⟩
theorem Tb.ext {M : List Nat} (h : Tb Ks w b F) (e : Ext M w w') (hm : b ∉ M) : Tb Ks w' b F := by
  obtain ⟨E, B, ⟨es, clock, hb, hr⟩, h2⟩ := h
  exact ⟨E, B, ⟨es, clock, by rw [e.blk b (Array.getElem?_eq_some_iff.1 hb).1 hm]; exact hb, hr⟩, h2⟩
theorem Tb.lt (h : Tb Ks w b F) : b < w.heap.size := by
  obtain ⟨E, B, ⟨es, clock, hb, _⟩, _⟩ := h
  exact (Array.getElem?_eq_some_iff.1 hb).1
theorem Tb.ne (h : Tb Ks w b F) {q : Nat} {cs : List Value} {u : TypeId} (k : Bk w q cs u) : b ≠ q := by
  rintro rfl
  obtain ⟨E, B, ⟨es, clock, hb, _⟩, _⟩ := h
  obtain ⟨_, hk, _⟩ := k
  rw [hb] at hk; cases hk
theorem ext_block {o : Obj} : Ext [b] w (ChangeMaps.setBlock w b o) :=
  ⟨rfl, rfl, rfl, by simp [ChangeMaps.setBlock], fun k hk hm => by
    simp at hm
    simp [ChangeMaps.setBlock, Array.getElem?_setIfInBounds, Ne.symm hm]⟩
theorem Tb.lookup (h : Tb Ks w b F) (a : κ) : (Instr.lookup t (.map (some b)) (Ks.f a) false).run P w = .ok (Ks.g (F a)) w := by
  obtain ⟨E, B, ⟨es, clock, hb, hE, _⟩, hF⟩ := h
  have hu := Ks.und
  have hg := MapKept.run_getObj_map (P := P) hb
  have hck := Ks.check w es.isEmpty a
  have hfk := run_findKey_eq (P := P) w Ks.wide (Ks.f a) es.toList
  rcases find_run Ks w a es.toList E 0 hE with ⟨j, hj, h1, h2, h3⟩ | ⟨h1, h2⟩
  · have : F a = (E[j]).2 := by rw [← hF a, getE_at hj h1 h2]; rfl
    rw [this]
    simp [Instr.lookup, und hu, hg, hck, hfk, h3]
  · have : F a = Ks.z := by rw [← hF a, getE_none h1]; rfl
    rw [this]
    simp [Instr.lookup, und hu, hg, hck, hfk, h2, Ks.zero]
omit [DecidableEq κ] in
theorem stays_run (w : World) (a : κ) : (Instr.keyThatStays (Ks.f a) (Ks.f a)).run P w = .ok (Ks.f a) w := by simp [Instr.keyThatStays, Ks.stay]
theorem Tb.entry (h : Tb Ks w b F) (a : κ) : ∃ st w', (Instr.mapEntry t (.map (some b)) (Ks.f a)).run P w = .ok (.tuple #[Ks.g (F a), .int .i64 ((st : Nat) : Int)]) w' ∧ TbS Ks w' b F a st ∧ Ext [b] w w' := by
  obtain ⟨E, B, ⟨es, clock, hb, hE, hB, hnd, hlt⟩, hF⟩ := h
  have hu := Ks.und
  have hg := MapKept.run_getObj_map (P := P) hb
  have hck := Ks.check w false a
  have hfk := run_findKey_eq (P := P) w Ks.wide (Ks.f a) es.toList
  have hlen : es.size = E.length := by have := congrArg List.length hE; simpa using this
  rcases find_run Ks w a es.toList E 0 hE with ⟨j, hj, h1, h2, h3⟩ | ⟨h1, h2⟩
  · have hFa : F a = (E[j]).2 := by rw [← hF a, getE_at hj h1 h2]; rfl
    have hjs : j < es.size := by omega
    have hkey : (es[j]).key = Ks.f a := by
      have := congrArg (fun l => l[j]?) hE
      simp [hjs, hj] at this
      rw [this.1, h1]
    have hst := stays_run (Ks := Ks) (P := P) w a
    have hso := MapKept.run_setObj_map (P := P) (.map (es.modify j fun e => { e with key := Ks.f a }) clock) hb
    refine ⟨(es[j]).born, ChangeMaps.setBlock w b (.map (es.modify j fun e => { e with key := Ks.f a }) clock), ?_, ⟨E, B, ⟨es.modify j fun e => { e with key := Ks.f a }, clock, ChangeMaps.heap_setBlock_same hb _, ?_, ?_, hnd, hlt⟩, hF, j, hj, h1, h2, ?_⟩, ext_block⟩
    · simp [Instr.mapEntry, und hu, hg, hck, hfk, h3, hjs, hkey, hst, hso, hFa, goInt, ChangeMaps.setBlock]
    · rw [← hE]
      apply List.ext_getElem
      · simp
      · intro i h1' h2'
        simp at h1' h2'
        by_cases hij : j = i
        · subst hij; simp [Array.getElem_modify, hkey]
        · simp [Array.getElem_modify, hij]
    · rw [← hB]
      apply List.ext_getElem
      · simp
      · intro i h1' h2'
        simp at h1' h2'
        by_cases hij : j = i
        · subst hij; simp [Array.getElem_modify]
        · simp [Array.getElem_modify, hij]
    · rw [← hB]; simp [hjs]
  · have hFa : F a = Ks.z := by rw [← hF a, getE_none h1]; rfl
    have hso := MapKept.run_setObj_map (P := P) (.map (es.push { key := Ks.f a, val := Ks.g Ks.z, born := clock }) (clock + 1)) hb
    have hBl : B.length = E.length := by rw [← hB]; simpa using hlen
    refine ⟨clock, ChangeMaps.setBlock w b (.map (es.push { key := Ks.f a, val := Ks.g Ks.z, born := clock }) (clock + 1)), ?_, ⟨E ++ [(a, Ks.z)], B ++ [clock], ⟨es.push { key := Ks.f a, val := Ks.g Ks.z, born := clock }, clock + 1, ChangeMaps.heap_setBlock_same hb _, ?_, ?_, ?_, ?_⟩, ?_, E.length, by simp, by simp, ?_, ?_⟩, ext_block⟩
    · simp [Instr.mapEntry, und hu, hg, hck, hfk, h2, Ks.zero, hso, hFa, goInt, ChangeMaps.setBlock]
    · simp [hE]
    · simp [hB]
    · rw [List.nodup_append]
      refine ⟨hnd, by simp, ?_⟩
      intro x hx y hy
      simp at hy
      have := hlt x hx
      omega
    · intro x hx
      rcases List.mem_append.1 hx with hx | hx
      · have := hlt x hx; omega
      · simp at hx; omega
    · intro c
      rw [getE_app, ← hF c]
      cases hc : getE E c with
      | some v => rfl
      | none =>
        simp only [Option.none_or, Option.getD_none]
        split <;> rfl
    · intro i hi
      rw [List.getElem_append_left hi]
      exact h1 _ (List.getElem_mem hi)
    · rw [← hBl]; simp
theorem TbS.store (h : TbS Ks w b F a st) (v : ν) : ∃ w', (Instr.entryStore t (.map (some b)) (.int .i64 ((st : Nat) : Int)) (Ks.g v)).run P w = .ok () w' ∧ Tb Ks w' b (fun c => if a = c then v else F c) ∧ Ext [b] w w' := by
  obtain ⟨E, B, ⟨es, clock, hb, hE, hB, hnd, hlt⟩, hF, j, hj, h1, h2, hst⟩ := h
  have hg := MapKept.run_getObj_map (P := P) hb
  have hlen : es.size = E.length := by have := congrArg List.length hE; simpa using this
  have hjs : j < es.size := by omega
  have hso := MapKept.run_setObj_map (P := P) (.map (es.modify j fun e => { e with val := Ks.g v }) clock) hb
  have hbj : (es[j]).born = st := by
    rw [← hB] at hst
    simpa [hjs] using hst
  have hfi : es.findIdx? (fun e => (e.born : Int) == ((st : Nat) : Int)) = some j := by
    rw [Array.findIdx?_eq_some_iff_getElem]
    refine ⟨hjs, by simp [hbj], fun i hi => ?_⟩
    have hne : (es[i]'(by omega)).born ≠ st := by
      intro e
      have hBi : B[i]? = some st := by rw [← hB]; simp [show i < es.size by omega, e]
      have hi' := (List.getElem?_eq_some_iff.1 hBi).1
      have := (List.getElem?_inj hi' hnd).1 (hBi.trans hst.symm)
      omega
    simp; omega
  refine ⟨ChangeMaps.setBlock w b (.map (es.modify j fun e => { e with val := Ks.g v }) clock), ?_, ⟨E.set j (a, v), B, ⟨es.modify j fun e => { e with val := Ks.g v }, clock, ChangeMaps.heap_setBlock_same hb _, ?_, ?_, hnd, hlt⟩, fun c => ?_⟩, ext_block⟩
  · simp [Instr.entryStore, hg, asInt, asIntOf, hfi, hso, ChangeMaps.setBlock]
  · apply List.ext_getElem?
    intro i
    have hEi := congrArg (fun l => l[i]?) hE
    simp only [List.getElem?_map, Array.getElem?_toList, Array.getElem?_modify, List.getElem?_set] at hEi ⊢
    by_cases hij : j = i
    · subst hij
      simp [hjs, hj] at hEi ⊢
      rw [hEi.1, h1]
    · simp only [if_neg hij]
      exact hEi
  · rw [← hB]
    apply List.ext_getElem?
    intro i
    simp only [List.getElem?_map, Array.getElem?_toList, Array.getElem?_modify]
    split <;> cases es[i]? <;> rfl
  · rw [getE_set hj h1 h2]
    show _ = if a = c then v else F c
    by_cases hac : a = c
    · rw [if_pos hac, if_pos hac]; rfl
    · rw [if_neg hac, if_neg hac]; exact hF c
end
end Go.Proofs.Ytlnomdjmjeabhaa
