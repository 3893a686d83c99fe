/-
  Engine, part D: 'vcOp' is sound.
-/
import Derived.Test.YtknohdgcigcmdaaEngC
namespace Go.Proofs.Ytknohdgcigcmdaa
open Go.RowKit

/-- the operation runs, and ends in K -/
def OpOk (P : Program) (o : Oper) (a : Act) (w : World) (K : Value → World → Prop) : Prop :=
  ∀ next Q, (∀ v w', K v w' → next (a.put o.dst v) w') → o.wp P a w next Q

section
variable {P : Program} {o : Oper} {a : Act} {w w' : World} {K : Value → World → Prop}
theorem OpOk.value {v : Value} (h : (execOp a.eval o).run P w = .ok (.value v) w') (hk : K v w') : OpOk P o a w K := fun _ _ hn => by
  unfold Oper.wp; rw [h]; exact hn _ _ hk
theorem OpOk.skip (h : (execOp a.eval o).run P w = .ok .skip w') (hk : K undef w') : OpOk P o a w K := fun _ _ hn => by
  unfold Oper.wp; rw [h]; exact hn _ _ hk
theorem OpOk.enter {f : FuncId} {args : Array Value} (h : (execOp a.eval o).run P w = .ok (.enter f args) w')
    (hc : Calls P f args w' fun e w'' => ∃ v, e = .returned v ∧ K v w'') : OpOk P o a w K := fun next Q hn => by
  unfold Oper.wp; rw [h]
  refine Calls.mono hc ?_
  rintro e w'' ⟨v, rfl, hk⟩
  exact hn _ _ hk

theorem execOp_congr {ρ ρ' : Operand → Value} (hs : ∀ cs b, o.op ≠ .select cs b) (h : ∀ x ∈ o.op.operands, ρ x = ρ' x) : execOp ρ o = execOp ρ' o := by
  obtain ⟨dst, op, ty, pos, after, guard⟩ := o
  have hm : ∀ {l : Array Operand}, (∀ x ∈ l, ρ x = ρ' x) → l.map ρ = l.map ρ' := fun hl => Array.map_congr_left hl
  have ho : ∀ {l : Option Operand}, (∀ x ∈ l.toArray, ρ x = ρ' x) → l.map ρ = l.map ρ' := by
    intro l hl; cases l with
    | none => rfl
    | some x => simp [hl x (by simp)]
  have hps : ∀ {l : Array (Nat × Operand)}, (∀ x ∈ (l.toList.map (·.2)).toArray, ρ x = ρ' x) → (l.map fun (i, x) => (i, ρ x)) = (l.map fun (i, x) => (i, ρ' x)) := by
    intro l hl
    refine Array.map_congr_left fun p hp => ?_
    obtain ⟨i, x⟩ := p
    have := hl x (by simp; exact ⟨i, by simpa using hp⟩)
    simp [this]
  have hcall : ∀ {c : Call}, (∀ x ∈ c.operands, ρ x = ρ' x) → resolve ρ c ty = resolve ρ' c ty := by
    intro c hc
    unfold resolve
    have hargs : c.args.map ρ = c.args.map ρ' := hm fun x hx => hc x (by unfold Call.operands; exact Array.mem_append.2 (.inr hx))
    rw [hargs]
    obtain ⟨ce, args, ats⟩ := c
    cases ce with
    | value f => simp only; rw [hc f (by simp [Call.operands])]
    | invoke r m => simp only; rw [hc r (by simp [Call.operands])]
    | builtin b => rfl
  cases op <;> simp only [Op.operands] at h <;> simp only [execOp]
  case move x => rw [h x (by simp)]
  case assign x => rw [h x (by simp)]
  case pick c x y => rw [h c (by simp), h x (by simp), h y (by simp)]
  case box t x => rw [h x (by simp)]
  case build t ps => rw [hps h]
  case buildSlice t n ps => rw [hps h]
  case load t x => rw [h x (by simp)]
  case store t x y => rw [h x (by simp), h y (by simp)]
  case nilCheck x => rw [h x (by simp)]
  case binOp b t x y u => rw [h x (by simp), h y (by simp)]
  case unOp b t x => rw [h x (by simp)]
  case convert s d x => rw [h x (by simp)]
  case sliceToArrayPointer s x => rw [h x (by simp)]
  case makeInterface s x => rw [h x (by simp)]
  case makeFunc f x y => rw [hm fun z hz => h z (by simp; exact .inl (by simpa using hz)), hm fun z hz => h z (by simp; exact .inr (by simpa using hz))]
  case makeMap t r => rw [ho h]
  case makeChan t x => rw [h x (by simp)]
  case makeSlice t x y => rw [h x (by simp), h y (by simp)]
  case slice t x l hh m =>
    rw [h x (by simp), ho fun z hz => h z (by simp at hz ⊢; simp [hz]), ho fun z hz => h z (by simp at hz ⊢; simp [hz]), ho fun z hz => h z (by simp at hz ⊢; simp [hz])]
  case fieldAddr t x f => rw [h x (by simp)]
  case field t x f => rw [h x (by simp)]
  case indexAddr t x i => rw [h x (by simp), h i (by simp)]
  case index t x i => rw [h x (by simp), h i (by simp)]
  case lookup t x i ok => rw [h x (by simp), h i (by simp)]
  case mapUpdate t m k x => rw [h m (by simp), h k (by simp), h x (by simp)]
  case insert t m k x => rw [h m (by simp), h k (by simp), h x (by simp)]
  case mapEntry t m k => rw [h m (by simp), h k (by simp)]
  case entryStore t m k x => rw [h m (by simp), h k (by simp), h x (by simp)]
  case range t x => rw [h x (by simp)]
  case next x b => rw [h x (by simp)]
  case entry x => rw [h x (by simp)]
  case typeAssert x a b c => rw [h x (by simp)]
  case extract x i => rw [h x (by simp)]
  case call c => rw [hcall h]
  case go c => rw [hcall h]
  case defer c => rw [hcall h]
  case panic x => rw [h x (by simp)]
  case send c x => rw [h c (by simp), h x (by simp)]
  case recv t x b => rw [h x (by simp)]
  case select cs b => exact absurd rfl (hs cs b)

theorem known_eq {ev : Operand → Option Value} (hs : ∀ cs b, o.op ≠ .select cs b) (hk : known ev o.op = true) (hev : ∀ x v, ev x = some v → a.eval x = v) : execOp a.eval o = execOp (evd ev) o := by
  refine execOp_congr hs fun x hx => ?_
  have := List.all_eq_true.1 hk x (by simpa using hx)
  obtain ⟨v, hv⟩ := Option.isSome_iff_exists.1 this
  rw [hev x v hv, evd, hv]; rfl

theorem vcGen_ok {ev : Operand → Option Value} (hs : ∀ cs b, o.op ≠ .select cs b) (hev : ∀ x v, ev x = some v → a.eval x = v) (h : vcGen P o ev w K) : OpOk P o a w K := by
  unfold vcGen at h
  cases hk : known ev o.op with
  | false => simp [hk] at h
  | true =>
    simp only [hk] at h
    cases hp : pureRun P (execOp (evd ev) o) with
    | none => simp [hp] at h
    | some v =>
      simp only [hp, force_eq] at h
      exact .value (by rw [known_eq hs hk hev]; exact pureRun_value _ v hp w) h
theorem vcGen_ex {ev : Operand → Option Value} (h : vcGen P o ev w K) : ∃ v, K v w := by
  unfold vcGen at h
  split at h
  · split at h
    · exact ⟨_, by simpa only [force_eq] using h⟩
    · exact h.elim
  · exact h.elim

theorem vcNew_ok {ev : Operand → Option Value} {g : Option Bool} (hg : g = none ∨ g = some true) (hs : ∀ cs b, o.op ≠ .select cs b) (hev : ∀ x v, ev x = some v → a.eval x = v) (h : vcNew P o ev g w K) : OpOk P o a w K := by
  unfold vcNew at h
  cases hk : known ev o.op with
  | false => simp [hk] at h
  | true =>
    simp only [hk] at h
    cases hp : newRun P (execOp (evd ev) o) with
    | none => simp [hp] at h
    | some of =>
      obtain ⟨ob, f⟩ := of
      simp only [hp] at h
      have h' : ∀ b w', NewB w b ob w' → (match f b with | some v => force v fun v => K v w' | none => False) := by
        rcases hg with rfl | rfl
        · exact h
        · exact h.1 rfl
      have h2 := h' _ _ (NewB.alloc w ob)
      cases hf : f w.heap.size with
      | none => simp [hf] at h2
      | some v =>
        simp only [hf, force_eq] at h2
        exact .value (by rw [known_eq hs hk hev]; exact newRun_run _ ob f hp w v hf) h2
theorem vcNew_ex {ev : Operand → Option Value} (h : vcNew P o ev (some false) w K) : ∃ v, K v w := by
  unfold vcNew at h
  split at h
  · split at h
    · obtain ⟨b, hb⟩ := h.2 rfl
      split at hb
      · exact ⟨_, by simpa only [force_eq] using hb⟩
      · exact hb.elim
    · exact h.elim
  · exact h.elim

/-- no guard, or one that holds -/
def On (g : Option Bool) : Prop := g = none ∨ g = some true
theorem On.app {g : Option Bool} (hg : On g) {w : World} {e : TypeId} {size bytes : Nat} {zc : Array Value} {base : Option Addr} {n cap m : Nat} {src : List Value → Prop} {K : Sl → World → Prop}
    (h : VApp g w e size bytes zc base n cap m src K) : VAppC w e size bytes zc base n cap m src K := by
  rcases hg with rfl | rfl
  · exact h
  · exact h.1 rfl
theorem On.copy {g : Option Bool} (hg : On g) {w : World} {size : Nat} {base : Option Addr} {n m : Nat} {src : List Value → Prop} {K : World → Prop}
    (h : VCopy g w size base n m src K) : VCopyC w size base n m src K := by
  rcases hg with rfl | rfl
  · exact h
  · exact h.1 rfl
theorem On.made {g : Option Bool} (hg : On g) {w : World} {e : TypeId} {size bytes : Nat} {zc : Array Value} {l c : Int} {K : Nat → World → Prop}
    (h : VMk g w e size bytes zc l c K) : VMkC w e size bytes zc l c K := by
  rcases hg with rfl | rfl
  · exact h
  · exact h.1 rfl
theorem On.bytes {g : Option Bool} (hg : On g) {w : World} {e : TypeId} {s : ByteArray} {K : Nat → Nat → World → Prop} (h : VBytes g w e s K) : VBytesC w e s K := by
  rcases hg with rfl | rfl
  · exact h
  · exact h.1 rfl
theorem On.mark {g : Option Bool} (hg : On g) {w : World} {a : Addr} {K : World → Prop} (h : VMark g w a K) : K (markW w a) := by
  rcases hg with rfl | rfl
  · exact h _ rfl
  · exact h.1 rfl _ rfl
theorem On.dyn {g : Option Bool} (hg : On g) {P : Program} {v : Value} {args : Array Value} {w : World} {z : Value} {K : ArrW (flatCT z)} (h : VDyn g P v args w z K) : VDynC P v args w z K := by
  rcases hg with rfl | rfl
  · exact h
  · exact h.1 rfl
theorem On.run_ {g : Option Bool} (hg : On g) {P : Program} {s : Sem Value} {w : World} {z : Value} {K : ArrW (flatCT z)} (h : VRun g P s w z K) : VRunC P s w z K := by
  rcases hg with rfl | rfl
  · exact h
  · exact h.1 rfl
theorem On.runU {g : Option Bool} (hg : On g) {P : Program} {s : Sem Unit} {w : World} {K : World → Prop} (h : VRunU g P s w K) : ∃ w', s.run P w = .ok () w' ∧ K w' := by
  rcases hg with rfl | rfl
  · exact h
  · exact h.1 rfl
theorem On.gd {g : Option Bool} (hg : On g) {p : Prop} (h : gd g p) : p := by
  rcases hg with rfl | rfl
  · exact h
  · exact h rfl
end

section runs
variable {P : Program} {w : World}
theorem und {t : TypeId} {d : TypeDesc} (h : P.underlying t = some d) : (underlying t).run P w = .ok d w := run_underlying h w
theorem run_rd {a : Addr} {vs : List Value} (h : Rd w a vs) : (loadCells a vs.length).run P w = .ok vs.toArray w := run_loadCells_list w a vs h
theorem run_loadAt {t : TypeId} {a : Addr} {vs : List Value} {z : Value} (hl : loadable P t = true) (hz : zeroOf P t = some z) (hlen : vs.length = (flatCT z).length) (h : Rd w a vs) :
    (Instr.loadAt t (.pointer (some a))).run P w = .ok (rebuild z vs) w := by
  unfold loadable at hl
  unfold zeroOf at hz
  cases hu : P.underlying t with
  | none => simp [hu] at hl
  | some d =>
    cases hi : P.info? t with
    | none => simp [hu, hi] at hl
    | some i =>
      simp only [hi] at hz
      simp only [hu, hi, hz] at hl
      have one : ∀ v, vs = [v] → w.cell? a = some v := fun v hv => by
        have := h 0 v (by simp [hv]); simpa [Addr.add] using this
      have hsz : ∀ cs, z = .agg cs → Nat.beq i.size cs.size = true → (loadCells a i.size).run P w = .ok vs.toArray w := fun cs hcs he => by
        have h1 : i.size = cs.size := Nat.eq_of_beq_eq_true he
        have h2 : vs.length = cs.size := by rw [hlen, hcs]; simp [flatCT]
        rw [h1, ← h2]; exact run_rd h
      cases z <;> cases d <;> simp only [Bool.false_eq_true] at hl <;>
        simp only [Instr.loadAt, Instr.sureAddr, loadVar, isAgg, Sem.run_bind, Sem.run_pure, Result.andThen_ok, und hu, sizeOf, typeInfo, run_program, hi, Bool.false_eq_true, ↓reduceIte]
      all_goals first
        | (rw [hsz _ rfl hl]; rfl)
        | (match vs, hlen with
           | [v], _ => simp only [rebuild, run_load, one v rfl])

theorem beqSize {t : TypeId} {n : Nat} (h : sizeIs P t n = true) : ∃ i, P.info? t = some i ∧ i.size = n := by
  unfold sizeIs at h
  split at h
  · exact ⟨_, by assumption, Nat.eq_of_beq_eq_true h⟩
  · cases h
theorem run_storesAt {a : Addr} : ∀ (vs : List Value) (i : Nat) (w : World), vs.all Value.oneCell' = true → (∀ j, j < vs.length → (∃ v, w.cell? (a.add (i + j)) = some v) ∧ w.frozen? (a.add (i + j)) = false) →
    (storeCells a vs i).run P w = .ok () (setsAt w a vs i)
  | [], i, w, _, _ => by simp [storeCells, setsAt]
  | v :: vs, i, w, h1, h2 => by
    simp only [List.all_cons, Bool.and_eq_true] at h1
    obtain ⟨⟨u, hu⟩, hf⟩ := h2 0 (by simp)
    simp only [Nat.add_zero] at hu hf
    have hst : (store (a.add i) v).run P w = .ok () (w.setCell (a.add i) v) := by
      rw [run_store P w _ v .plain h1.1, hu]; simp [hf]
    simp only [storeCells, Sem.run_bind, hst, Result.andThen_ok, setsAt]
    refine run_storesAt vs (i + 1) _ h1.2 fun j hj => ?_
    obtain ⟨⟨u', hu'⟩, hf'⟩ := h2 (j + 1) (by simp; omega)
    have e : i + 1 + j = i + (j + 1) := by omega
    rw [e]
    refine ⟨?_, by rw [World.frozen?_setCell]; exact hf'⟩
    by_cases hne : a.add i = a.add (i + (j + 1))
    · rw [hne] at hu ⊢; exact ⟨v, World.cell?_setCell_same _ _ _ hu⟩
    · exact ⟨u', by rw [World.cell?_setCell_other _ _ _ _ hne]; exact hu'⟩
theorem run_sets {a : Addr} {vs : List Value} (h1 : vs.all Value.oneCell' = true) (h2 : Wr w a vs.length) : (storeCells a vs).run P w = .ok () (sets w a vs) :=
  run_storesAt vs 0 w h1 fun j hj => by simpa using h2 j hj
theorem run_storeAt {t : TypeId} {a : Addr} {v : Value} (hs : sizeIs P t v.cells.size = true) (h1 : v.cells.toList.all Value.oneCell' = true) (h2 : Wr w a v.cells.toList.length) :
    (Instr.storeAt t (.pointer (some a)) v).run P w = .ok () (sets w a v.cells.toList) := by
  obtain ⟨i, hi, he⟩ := beqSize hs
  simp [Instr.storeAt, Instr.sureAddr, storeVar, sizeOf, typeInfo, hi, he, run_sets h1 h2]
theorem elem_both {t e : TypeId} (h : sliceElem P t = some e) : P.underlying t = some (.slice e) ∧ ∃ i, P.info? e = some i := by
  unfold sliceElem at h
  split at h
  · split at h
    · cases h; exact ⟨by assumption, _, by assumption⟩
    · cases h
  · cases h
theorem elem_und {t e : TypeId} (h : sliceElem P t = some e) : P.underlying t = some (.slice e) := (elem_both h).1
theorem str_und {t : TypeId} (h : isStr P t = true) : P.underlying t = some .string := by
  unfold isStr at h
  split at h
  · assumption
  · cases h
theorem int_und {t : TypeId} (h : isInt P t = true) : ∃ k, P.underlying t = some (.int k) := by
  unfold isInt at h
  split at h
  · rename_i k hk; exact ⟨k, hk⟩
  · cases h
end runs
end Go.Proofs.Ytknohdgcigcmdaa
