/-
  A map that the call itself made, whose keys differ: stored into at once, and deleted from.
-/
import Derived.Test.YtlnomdjmjeabhaaMapA
namespace Go.Proofs.Ytlnomdjmjeabhaa
open Go.RowKit
set_option maxRecDepth 100000

section
variable {P : Program} {t kt et : TypeId} {κ ν : Type} [DecidableEq κ] (Ks : Keys P t kt et κ ν)
/-- block b is a map that tells F; no key stands twice -/
def TbU (w : World) (b : Nat) (F : κ → ν) : Prop := ∃ E B, Mp Ks w b E B ∧ (E.map (·.1)).Nodup ∧ ∀ c, (getE E c).getD Ks.z = F c
variable {Ks} {w w' : World} {b : Nat} {F : κ → ν} {a : κ}
theorem TbU.new (h : NewB w b (.map #[] 0) w') : TbU Ks w' b (fun _ => Ks.z) := ⟨[], [], ⟨#[], 0, h.get, rfl, rfl, List.nodup_nil, by simp⟩, List.nodup_nil, fun c => rfl⟩
theorem TbU.tb (h : TbU Ks w b F) : Tb Ks w b F := by obtain ⟨E, B, h1, _, h2⟩ := h; exact ⟨E, B, h1, h2⟩
theorem TbU.ext {M : List Nat} (h : TbU Ks w b F) (e : Ext M w w') (hm : b ∉ M) : TbU Ks w' b F := by
  obtain ⟨E, B, ⟨es, clock, hb, hr⟩, h2⟩ := h
  exact ⟨E, B, ⟨es, clock, by rw [e.blk b (Array.getElem?_eq_some_iff.1 hb).1 hm]; exact hb, hr⟩, h2⟩
theorem TbU.ne (h : TbU Ks w b F) {q : Nat} {cs : List Value} {u : TypeId} (k : Bk w q cs u) : b ≠ q := h.tb.ne k
theorem TbU.lt (h : TbU Ks w b F) : b < w.heap.size := h.tb.lt
theorem TbU.same (h : TbU Ks w b F) {G : κ → ν} (hg : ∀ c, F c = G c) : TbU Ks w b G := by
  obtain ⟨E, B, h1, h2, h3⟩ := h
  exact ⟨E, B, h1, h2, fun c => (h3 c).trans (hg c)⟩
theorem TbU.update (h : TbU Ks w b F) (a : κ) (v : ν) : ∃ w', (Instr.mapUpdate t (.map (some b)) (Ks.f a) (Ks.g v)).run P w = .ok () w' ∧ TbU Ks w' b (fun c => if a = c then v else F c) ∧ Ext [b] w w' := by
  obtain ⟨E, B, ⟨es, clock, hb, hE, hB, hnd, hlt⟩, hun, hF⟩ := h
  have hu := Ks.und
  have hg := MapKept.run_getObj_map (P := P) hb
  have hck := Ks.check w false a
  have hfk := run_findKey_eq (P := P) w Ks.wide (Ks.f a) es.toList
  have hlen : es.size = E.length := by have := congrArg List.length hE; simpa using this
  rcases find_run Ks w a es.toList E 0 hE with ⟨j, hj, h1, h2, h3⟩ | ⟨h1, h2⟩
  · have hjs : j < es.size := by omega
    have hkey : (es[j]).key = Ks.f a := by
      have := congrArg (fun l => l[j]?) hE
      simp [hjs, hj] at this
      rw [this.1, h1]
    have hst := stays_run (Ks := Ks) (P := P) w a
    have hso := MapKept.run_setObj_map (P := P) (.map (es.modify j fun e => { e with key := Ks.f a, val := Ks.g v }) clock) hb
    refine ⟨ChangeMaps.setBlock w b (.map (es.modify j fun e => { e with key := Ks.f a, val := Ks.g v }) clock), ?_, ⟨E.set j (a, v), B, ⟨es.modify j fun e => { e with key := Ks.f a, val := Ks.g v }, clock, ChangeMaps.heap_setBlock_same hb _, ?_, ?_, hnd, hlt⟩, ?_, fun c => ?_⟩, ext_block⟩
    · simp [Instr.mapUpdate, und hu, hg, hck, hfk, h3, hjs, hkey, hst, hso, ChangeMaps.setBlock]
    · apply List.ext_getElem?
      intro i
      have hEi := congrArg (fun l => l[i]?) hE
      simp only [List.getElem?_map, Array.getElem?_toList, Array.getElem?_modify, List.getElem?_set] at hEi ⊢
      by_cases hij : j = i
      · subst hij
        simp [hjs, hj] at hEi ⊢
      · simp only [if_neg hij]
        exact hEi
    · rw [← hB]
      apply List.ext_getElem?
      intro i
      simp only [List.getElem?_map, Array.getElem?_toList, Array.getElem?_modify]
      split <;> cases es[i]? <;> rfl
    · have : (E.set j (a, v)).map (·.1) = E.map (·.1) := by
        apply List.ext_getElem?
        intro i
        simp only [List.getElem?_map, List.getElem?_set]
        by_cases hij : j = i
        · subst hij; simp [hj, h1]
        · simp [hij]
      rw [this]; exact hun
    · rw [getE_set hj h1 h2]
      show _ = if a = c then v else F c
      by_cases hac : a = c
      · rw [if_pos hac, if_pos hac]; rfl
      · rw [if_neg hac, if_neg hac]; exact hF c
  · have hso := MapKept.run_setObj_map (P := P) (.map (es.push { key := Ks.f a, val := Ks.g v, born := clock }) (clock + 1)) hb
    refine ⟨ChangeMaps.setBlock w b (.map (es.push { key := Ks.f a, val := Ks.g v, born := clock }) (clock + 1)), ?_, ⟨E ++ [(a, v)], B ++ [clock], ⟨es.push { key := Ks.f a, val := Ks.g v, born := clock }, clock + 1, ChangeMaps.heap_setBlock_same hb _, ?_, ?_, ?_, ?_⟩, ?_, fun c => ?_⟩, ext_block⟩
    · simp [Instr.mapUpdate, und hu, hg, hck, hfk, h2, hso, ChangeMaps.setBlock]
    · simp [hE]
    · simp [hB]
    · rw [List.nodup_append]
      refine ⟨hnd, by simp, ?_⟩
      intro x hx y hy
      simp at hy
      have := hlt x hx
      omega
    · intro x hx
      rcases List.mem_append.1 hx with hx | hx
      · have := hlt x hx; omega
      · simp at hx; omega
    · rw [List.map_append, List.nodup_append]
      refine ⟨hun, by simp, ?_⟩
      intro x hx y hy
      simp only [List.map_cons, List.map_nil, List.mem_singleton] at hy
      subst hy
      obtain ⟨p, hp, rfl⟩ := List.mem_map.1 hx
      exact h1 p hp
    · rw [getE_app]
      show _ = if a = c then v else F c
      by_cases hac : a = c
      · subst hac
        rw [if_pos rfl, getE_none h1]; simp
      · rw [if_neg hac, if_neg hac, ← hF c]
        cases getE E c <;> rfl
theorem getE_erase {E : List (κ × ν)} {j : Nat} (hj : j < E.length) (hun : (E.map (·.1)).Nodup) (c : κ) : getE (E.eraseIdx j) c = if (E[j]).1 = c then none else getE E c := by
  induction E generalizing j with
  | nil => simp at hj
  | cons p r ih =>
    simp only [List.map_cons, List.nodup_cons] at hun
    cases j with
    | zero =>
      simp only [List.eraseIdx_zero, List.tail_cons, List.getElem_cons_zero, getE]
      by_cases hc : p.1 = c
      · rw [if_pos hc]
        refine getE_none fun q hq e => hun.1 ?_
        rw [hc, ← e]
        exact List.mem_map_of_mem hq
      · rw [if_neg hc, if_neg hc]
    | succ j =>
      have hj' : j < r.length := by simpa using hj
      simp only [List.eraseIdx_cons_succ, List.getElem_cons_succ, getE]
      rw [ih hj' hun.2]
      by_cases hp : p.1 = c
      · rw [if_pos hp, if_pos hp]
        have : (r[j]).1 ≠ c := fun e => hun.1 (by rw [hp, ← e]; exact List.mem_map_of_mem (List.getElem_mem hj'))
        rw [if_neg this]
      · rw [if_neg hp, if_neg hp]
theorem map_erase {α β : Type} (f : α → β) : ∀ (l : List α) (j : Nat), (l.eraseIdx j).map f = (l.map f).eraseIdx j
  | [], j => rfl
  | x :: l, 0 => rfl
  | x :: l, j + 1 => by simp [map_erase f l j]
theorem TbU.del (h : TbU Ks w b F) (a : κ) {ty : TypeId} : ∃ w', (Builtin.delete_ #[t, kt] ty #[.map (some b), Ks.f a]).run P w = .ok (.tuple #[]) w' ∧ TbU Ks w' b (fun c => if a = c then Ks.z else F c) ∧ Ext [b] w w' := by
  obtain ⟨E, B, ⟨es, clock, hb, hE, hB, hnd, hlt⟩, hun, hF⟩ := h
  have hu := Ks.und
  have hg := MapKept.run_getObj_map (P := P) hb
  have hck := fun em => Ks.check w em a
  have hfk := run_findKey_eq (P := P) w Ks.wide (Ks.f a) es.toList
  have hlen : es.size = E.length := by have := congrArg List.length hE; simpa using this
  rcases find_run Ks w a es.toList E 0 hE with ⟨j, hj, h1, h2, h3⟩ | ⟨h1, h2⟩
  · have hjs : j < es.size := by omega
    have hso := MapKept.run_setObj_map (P := P) (.map (es.eraseIdxIfInBounds j) clock) hb
    refine ⟨ChangeMaps.setBlock w b (.map (es.eraseIdxIfInBounds j) clock), ?_, ⟨E.eraseIdx j, B.eraseIdx j, ⟨es.eraseIdxIfInBounds j, clock, ChangeMaps.heap_setBlock_same hb _, ?_, ?_, ?_, ?_⟩, ?_, fun c => ?_⟩, ext_block⟩
    · simp [Builtin.delete_, und hu, hg, hck, hfk, h3, hso, ChangeMaps.setBlock]
    · rw [Array.toList_eraseIdxIfInBounds, map_erase, hE, ← map_erase]
    · rw [Array.toList_eraseIdxIfInBounds, map_erase, hB]
    · exact hnd.eraseIdx _
    · intro x hx
      exact hlt x (List.mem_of_mem_eraseIdx hx)
    · rw [map_erase]
      exact hun.eraseIdx _
    · rw [getE_erase hj hun, h1]
      show _ = if a = c then Ks.z else F c
      by_cases hac : a = c
      · rw [if_pos hac, if_pos hac]; rfl
      · rw [if_neg hac, if_neg hac]; exact hF c
  · have hso := MapKept.run_setObj_map (P := P) (.map es clock) hb
    refine ⟨ChangeMaps.setBlock w b (.map es clock), ?_, ⟨E, B, ⟨es, clock, ChangeMaps.heap_setBlock_same hb _, hE, hB, hnd, hlt⟩, hun, fun c => ?_⟩, ext_block⟩
    · simp [Builtin.delete_, und hu, hg, hck, hfk, h2, hso, ChangeMaps.setBlock]
    · show _ = if a = c then Ks.z else F c
      by_cases hac : a = c
      · subst hac
        rw [if_pos rfl, getE_none h1]; rfl
      · rw [if_neg hac]; exact hF c
end
end Go.Proofs.Ytlnomdjmjeabhaa
