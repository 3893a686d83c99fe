/-
  A map that the call itself made, of plain keys (texts, numbers): looked up, stored into, deleted from, counted.
-/
import Derived.Test.YtlnomdjmjeabhaaMapB
namespace Go.Proofs.Ytlnomdjmjeabhaa
open Go.RowKit
set_option maxRecDepth 100000

/-- plain keys of one kind, and values -/
structure KeysP (P : Program) (t kt et : TypeId) (κ ν : Type) [DecidableEq κ] where
  f : κ → Value
  g : ν → Value
  z : ν
  kind : TypeDesc
  und : P.underlying t = some (.map kt et)
  undk : P.underlying kt = some kind
  zero : ∀ w : World, (zeroValue et).run P w = .ok (g z) w
  check : ∀ (w : World) (em : Bool) (a : κ), (Instr.checkKey em 10000 kt (f a)).run P w = .ok () w
  now : ∀ a b : κ, Instr.sameNow kind (f a) (f b) = some (decide (a = b))
  stay : ∀ a : κ, Instr.sameBits 10000 (f a) (f a) = true

section
variable {P : Program} {t kt et : TypeId} {κ ν : Type} [DecidableEq κ] (Ks : KeysP P t kt et κ ν)
theorem find_now (a : κ) : ∀ (es : List MapEntry) (E : List (κ × ν)) (i : Nat), es.map (fun e => (e.key, e.val)) = E.map (fun p => (Ks.f p.1, Ks.g p.2)) →
    (∃ j, ∃ hj : j < E.length, (E[j]).1 = a ∧ (∀ i (hi : i < j), (E[i]'(by omega)).1 ≠ a) ∧ Instr.findNow Ks.kind (Ks.f a) es i = some (some (i + j, Ks.g (E[j]).2))) ∨
    ((∀ p ∈ E, p.1 ≠ a) ∧ Instr.findNow Ks.kind (Ks.f a) es i = some none)
  | [], E, i, h => by
    cases E with
    | nil => exact .inr ⟨by simp, by simp [Instr.findNow]⟩
    | cons _ _ => simp at h
  | e :: es, [], i, h => by simp at h
  | e :: es, p :: E, i, h => by
    simp only [List.map_cons, List.cons.injEq, Prod.mk.injEq] at h
    obtain ⟨⟨hk, hv⟩, ht⟩ := h
    have hr := Ks.now a p.1
    rw [← hk] at hr
    by_cases hap : a = p.1
    · rw [decide_eq_true hap] at hr
      refine .inl ⟨0, by simp, by simp [hap], fun i hi => by omega, ?_⟩
      simp [Instr.findNow, hr, hv]
    · rw [decide_eq_false hap] at hr
      rcases find_now a es E (i + 1) ht with ⟨j, hj, h1, h2, h3⟩ | ⟨h1, h2⟩
      · refine .inl ⟨j + 1, by simpa using hj, by simpa using h1, fun i hi => ?_, ?_⟩
        · cases i with
          | zero => simpa using fun e => hap e.symm
          | succ i => simpa using h2 i (by omega)
        · simp [Instr.findNow, hr, h3]; omega
      · refine .inr ⟨fun q hq => ?_, ?_⟩
        · rcases List.mem_cons.1 hq with rfl | hq
          · exact fun e => hap e.symm
          · exact h1 q hq
        · simp [Instr.findNow, hr, h2]
theorem find_key (w : World) {a : κ} {es : List MapEntry} {r : Option (Nat × Value)} (h : Instr.findNow Ks.kind (Ks.f a) es 0 = some r) : (Instr.findKey kt (Ks.f a) es).run P w = .ok r w := by
  simp [Instr.findKey, run_underlying Ks.undk, h]
/-- block b is a map of these entries, and their stamps -/
def MpP (w : World) (b : Nat) (E : List (κ × ν)) (B : List Nat) : Prop :=
  ∃ es clock, w.heap[b]? = some (.map es clock) ∧ es.toList.map (fun e => (e.key, e.val)) = E.map (fun p => (Ks.f p.1, Ks.g p.2)) ∧ es.toList.map (·.born) = B ∧ B.Nodup ∧ ∀ x ∈ B, x < clock
/-- block b is a map that tells F, of n entries -/
def TbN (w : World) (b : Nat) (F : κ → Option ν) (n : Nat) : Prop := ∃ E B, MpP Ks w b E B ∧ (E.map (·.1)).Nodup ∧ (∀ c, getE E c = F c) ∧ E.length = n
variable {Ks} {w w' : World} {b n : Nat} {F : κ → Option ν} {a : κ}
theorem TbN.new (h : NewB w b (.map #[] 0) w') : TbN Ks w' b (fun _ => none) 0 := ⟨[], [], ⟨#[], 0, h.get, rfl, rfl, List.nodup_nil, by simp⟩, List.nodup_nil, fun c => rfl, rfl⟩
theorem TbN.ext {M : List Nat} (h : TbN Ks w b F n) (e : Ext M w w') (hm : b ∉ M) : TbN Ks w' b F n := by
  obtain ⟨E, B, ⟨es, clock, hb, hr⟩, h2⟩ := h
  exact ⟨E, B, ⟨es, clock, by rw [e.blk b (Array.getElem?_eq_some_iff.1 hb).1 hm]; exact hb, hr⟩, h2⟩
theorem TbN.lt (h : TbN Ks w b F n) : b < w.heap.size := by
  obtain ⟨E, B, ⟨es, clock, hb, _⟩, _⟩ := h
  exact (Array.getElem?_eq_some_iff.1 hb).1
theorem TbN.ne (h : TbN Ks w b F n) {q : Nat} {cs : List Value} {u : TypeId} (k : Bk w q cs u) : b ≠ q := by
  rintro rfl
  obtain ⟨E, B, ⟨es, clock, hb, _⟩, _⟩ := h
  obtain ⟨_, hk, _⟩ := k
  rw [hb] at hk; cases hk
theorem TbN.same (h : TbN Ks w b F n) {G : κ → Option ν} {m : Nat} (hg : ∀ c, F c = G c) (hm : n = m) : TbN Ks w b G m := by
  obtain ⟨E, B, h1, h2, h3, h4⟩ := h
  exact ⟨E, B, h1, h2, fun c => (h3 c).trans (hg c), h4.trans hm⟩
theorem TbN.lookup (h : TbN Ks w b F n) (a : κ) : (Instr.lookup t (.map (some b)) (Ks.f a) true).run P w = .ok (.tuple #[Ks.g ((F a).getD Ks.z), .bool (F a).isSome]) w := by
  obtain ⟨E, B, ⟨es, clock, hb, hE, _⟩, _, hF, _⟩ := h
  have hu := Ks.und
  have hg := MapKept.run_getObj_map (P := P) hb
  have hck := Ks.check w es.isEmpty a
  rcases find_now Ks a es.toList E 0 hE with ⟨j, hj, h1, h2, h3⟩ | ⟨h1, h2⟩
  · have hfk := find_key Ks w h3
    have : F a = some (E[j]).2 := by rw [← hF a, getE_at hj h1 h2]
    rw [this]
    simp [Instr.lookup, und hu, hg, hck, hfk]
  · have hfk := find_key Ks w h2
    have : F a = none := by rw [← hF a, getE_none h1]
    rw [this]
    simp [Instr.lookup, und hu, hg, hck, hfk, Ks.zero]
theorem TbN.len (h : TbN Ks w b F n) {ty : TypeId} : (Builtin.len_ #[t] ty #[.map (some b)]).run P w = .ok (.int .i64 ((n : Nat) : Int)) w := by
  obtain ⟨E, B, ⟨es, clock, hb, hE, _⟩, _, _, hn⟩ := h
  have hu := Ks.und
  have hg := MapKept.run_getObj_map (P := P) hb
  have hlen : es.size = E.length := by have := congrArg List.length hE; simpa using this
  simp [Builtin.len_, und hu, hg, goInt, hlen, hn]
omit [DecidableEq κ] in
theorem staysP_run [DecidableEq κ] (Ks : KeysP P t kt et κ ν) (w : World) (a : κ) : (Instr.keyThatStays (Ks.f a) (Ks.f a)).run P w = .ok (Ks.f a) w := by simp [Instr.keyThatStays, Ks.stay]
theorem TbN.update (h : TbN Ks w b F n) (a : κ) (v : ν) : ∃ w', (Instr.mapUpdate t (.map (some b)) (Ks.f a) (Ks.g v)).run P w = .ok () w' ∧ TbN Ks w' b (fun c => if a = c then some v else F c) (if (F a).isSome then n else n + 1) ∧ Ext [b] w w' := by
  obtain ⟨E, B, ⟨es, clock, hb, hE, hB, hnd, hlt⟩, hun, hF, hn⟩ := h
  have hu := Ks.und
  have hg := MapKept.run_getObj_map (P := P) hb
  have hck := Ks.check w false a
  have hlen : es.size = E.length := by have := congrArg List.length hE; simpa using this
  rcases find_now Ks a es.toList E 0 hE with ⟨j, hj, h1, h2, h3⟩ | ⟨h1, h2⟩
  · have hfk := find_key Ks w h3
    have hjs : j < es.size := by omega
    have hFa : (F a).isSome = true := by rw [← hF a, getE_at hj h1 h2]; rfl
    have hkey : (es[j]).key = Ks.f a := by
      have := congrArg (fun l => l[j]?) hE
      simp [hjs, hj] at this
      rw [this.1, h1]
    have hst := staysP_run (P := P) Ks w a
    have hso := MapKept.run_setObj_map (P := P) (.map (es.modify j fun e => { e with key := Ks.f a, val := Ks.g v }) clock) hb
    refine ⟨ChangeMaps.setBlock w b (.map (es.modify j fun e => { e with key := Ks.f a, val := Ks.g v }) clock), ?_, ⟨E.set j (a, v), B, ⟨es.modify j fun e => { e with key := Ks.f a, val := Ks.g v }, clock, ChangeMaps.heap_setBlock_same hb _, ?_, ?_, hnd, hlt⟩, ?_, fun c => ?_, ?_⟩, ext_block⟩
    · simp [Instr.mapUpdate, und hu, hg, hck, hfk, hjs, hkey, hst, hso, ChangeMaps.setBlock]
    · apply List.ext_getElem?
      intro i
      have hEi := congrArg (fun l => l[i]?) hE
      simp only [List.getElem?_map, Array.getElem?_toList, Array.getElem?_modify, List.getElem?_set] at hEi ⊢
      by_cases hij : j = i
      · subst hij
        simp [hjs, hj] at hEi ⊢
      · simp only [if_neg hij]
        exact hEi
    · rw [← hB]
      apply List.ext_getElem?
      intro i
      simp only [List.getElem?_map, Array.getElem?_toList, Array.getElem?_modify]
      split <;> cases es[i]? <;> rfl
    · have : (E.set j (a, v)).map (·.1) = E.map (·.1) := by
        apply List.ext_getElem?
        intro i
        simp only [List.getElem?_map, List.getElem?_set]
        by_cases hij : j = i
        · subst hij; simp [hj, h1]
        · simp [hij]
      rw [this]; exact hun
    · rw [getE_set hj h1 h2]
      show _ = if a = c then some v else F c
      by_cases hac : a = c
      · rw [if_pos hac, if_pos hac]
      · rw [if_neg hac, if_neg hac]; exact hF c
    · rw [if_pos hFa, List.length_set]; exact hn
  · have hfk := find_key Ks w h2
    have hFa : ¬ (F a).isSome = true := by rw [← hF a, getE_none h1]; simp
    have hso := MapKept.run_setObj_map (P := P) (.map (es.push { key := Ks.f a, val := Ks.g v, born := clock }) (clock + 1)) hb
    refine ⟨ChangeMaps.setBlock w b (.map (es.push { key := Ks.f a, val := Ks.g v, born := clock }) (clock + 1)), ?_, ⟨E ++ [(a, v)], B ++ [clock], ⟨es.push { key := Ks.f a, val := Ks.g v, born := clock }, clock + 1, ChangeMaps.heap_setBlock_same hb _, ?_, ?_, ?_, ?_⟩, ?_, fun c => ?_, ?_⟩, ext_block⟩
    · simp [Instr.mapUpdate, und hu, hg, hck, hfk, hso, ChangeMaps.setBlock]
    · simp [hE]
    · simp [hB]
    · rw [List.nodup_append]
      refine ⟨hnd, by simp, ?_⟩
      intro x hx y hy
      simp at hy
      have := hlt x hx
      omega
    · intro x hx
      rcases List.mem_append.1 hx with hx | hx
      · have := hlt x hx; omega
      · simp at hx; omega
    · rw [List.map_append, List.nodup_append]
      refine ⟨hun, by simp, ?_⟩
      intro x hx y hy
      simp only [List.map_cons, List.map_nil, List.mem_singleton] at hy
      subst hy
      obtain ⟨p, hp, rfl⟩ := List.mem_map.1 hx
      exact h1 p hp
    · rw [getE_app]
      show _ = if a = c then some v else F c
      by_cases hac : a = c
      · subst hac
        rw [if_pos rfl, if_pos rfl, getE_none h1]; simp
      · rw [if_neg hac, if_neg hac, ← hF c]
        cases getE E c <;> rfl
    · rw [if_neg hFa, List.length_append, hn]; rfl
theorem TbN.del (h : TbN Ks w b F n) (a : κ) {ty : TypeId} : ∃ w', (Builtin.delete_ #[t, kt] ty #[.map (some b), Ks.f a]).run P w = .ok (.tuple #[]) w' ∧ TbN Ks w' b (fun c => if a = c then none else F c) (if (F a).isSome then n - 1 else n) ∧ Ext [b] w w' := by
  obtain ⟨E, B, ⟨es, clock, hb, hE, hB, hnd, hlt⟩, hun, hF, hn⟩ := h
  have hu := Ks.und
  have hg := MapKept.run_getObj_map (P := P) hb
  have hck := fun em => Ks.check w em a
  have hlen : es.size = E.length := by have := congrArg List.length hE; simpa using this
  rcases find_now Ks a es.toList E 0 hE with ⟨j, hj, h1, h2, h3⟩ | ⟨h1, h2⟩
  · have hfk := find_key Ks w h3
    have hjs : j < es.size := by omega
    have hFa : (F a).isSome = true := by rw [← hF a, getE_at hj h1 h2]; rfl
    have hso := MapKept.run_setObj_map (P := P) (.map (es.eraseIdxIfInBounds j) clock) hb
    refine ⟨ChangeMaps.setBlock w b (.map (es.eraseIdxIfInBounds j) clock), ?_, ⟨E.eraseIdx j, B.eraseIdx j, ⟨es.eraseIdxIfInBounds j, clock, ChangeMaps.heap_setBlock_same hb _, ?_, ?_, ?_, ?_⟩, ?_, fun c => ?_, ?_⟩, ext_block⟩
    · simp [Builtin.delete_, und hu, hg, hck, hfk, hso, ChangeMaps.setBlock]
    · rw [Array.toList_eraseIdxIfInBounds, map_erase, hE, ← map_erase]
    · rw [Array.toList_eraseIdxIfInBounds, map_erase, hB]
    · exact hnd.eraseIdx _
    · intro x hx
      exact hlt x (List.mem_of_mem_eraseIdx hx)
    · rw [map_erase]
      exact hun.eraseIdx _
    · rw [getE_erase hj hun, h1]
      show _ = if a = c then none else F c
      by_cases hac : a = c
      · rw [if_pos hac, if_pos hac]
      · rw [if_neg hac, if_neg hac]; exact hF c
    · rw [if_pos hFa, List.length_eraseIdx, if_pos hj, hn]
  · have hfk := find_key Ks w h2
    have hFa : ¬ (F a).isSome = true := by rw [← hF a, getE_none h1]; simp
    have hso := MapKept.run_setObj_map (P := P) (.map es clock) hb
    refine ⟨ChangeMaps.setBlock w b (.map es clock), ?_, ⟨E, B, ⟨es, clock, ChangeMaps.heap_setBlock_same hb _, hE, hB, hnd, hlt⟩, hun, fun c => ?_, ?_⟩, ext_block⟩
    · simp [Builtin.delete_, und hu, hg, hck, hfk, hso, ChangeMaps.setBlock]
    · show _ = if a = c then none else F c
      by_cases hac : a = c
      · subst hac
        rw [if_pos rfl, getE_none h1]
      · rw [if_neg hac]; exact hF c
    · rw [if_neg hFa]; exact hn
end
end Go.Proofs.Ytlnomdjmjeabhaa
