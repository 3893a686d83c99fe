/-
  Engine, part J: a whole function.
-/
import Derived.Test.YtknohdgcigcmdaaEngI
namespace Go.Proofs.Ytknohdgcigcmdaa
open Go.RowKit

def envOf : Nat → List Value → Env
  | _, [] => []
  | i, v :: vs => (i, some ([], v)) :: envOf (i + 1) vs

/-- the results' values -/
def vcRes (P : Program) (env : Env) (w : World) : List ResultVar → (List Value → Prop) → Prop
  | [], K => K []
  | .tmp t :: r, K => (match env.get t with
    | some ([], v) => vcRes P env w r fun vs => K (v :: vs)
    | _ => False)
  | .cell t ty :: r, K => (match loadable P ty, env.get t, zeroOf P ty with
    | true, some ([], .pointer (some a)), some z => VLd none w a (flatCT z) (curP (flatCT z) fun cs => vcRes P env w r fun vs => K (rebuild z cs :: vs))
    | _, _, _ => False)
def resOf : List Value → Value
  | [v] => v
  | vs => .tuple vs.toArray
def retK (P : Program) (rs : List ResultVar) (R : Ending → World → Prop) (e : VExit) (env : Env) (w : World) : Prop :=
  match e with
  | .exit _ => False
  | .ret => vcRes P env w rs fun vs => R (.returned (resOf vs)) w
  | .normal => vcRes P env w rs fun vs => R (.returned (resOf vs)) w

section
variable {P : Program} {n : Nat}
theorem envOf_get : ∀ {vs : List Value} {i t : Nat} {g : Path} {v : Value}, (envOf i vs).get t = some (g, v) → g = [] ∧ i ≤ t ∧ vs[t - i]? = some v
  | [], i, t, g, v, h => by simp [envOf, Env.get] at h
  | u :: vs, i, t, g, v, h => by
    simp only [envOf, Env.get] at h
    cases hb : Nat.beq i t with
    | true =>
      rw [hb] at h
      have := Nat.eq_of_beq_eq_true hb
      subst this
      cases h
      exact ⟨rfl, Nat.le_refl _, by simp⟩
    | false =>
      rw [hb] at h
      obtain ⟨h1, h2, h3⟩ := envOf_get h
      refine ⟨h1, by omega, ?_⟩
      have : t - i = (t - (i + 1)) + 1 := by omega
      rw [this]; simpa using h3

def resSem (tmps : Array Value) : ResultVar → Sem Value
  | .tmp t => pure (tmps.getD t undef)
  | .cell a t => do loadVar t (← asAddr (tmps.getD a undef))
theorem vcRes_ok {env : Env} {a : Act} {w : World} (he : EnvOk n env a.tmps) : ∀ {rs : List ResultVar} {K : List Value → Prop}, vcRes P env w rs K →
    ∃ vs, (rs.mapM (resSem a.tmps)).run P w = .ok vs w ∧ K vs
  | [], K, h => ⟨[], rfl, h⟩
  | .tmp t :: r, K, h => by
    simp only [vcRes] at h
    split at h
    · rename_i v hg
      obtain ⟨vs, hr, hk⟩ := vcRes_ok he h
      have := (he.ents t _ _ hg).2
      refine ⟨v :: vs, ?_, hk⟩
      simp only [List.mapM_cons, Sem.run_bind, resSem, Sem.run_pure, Result.andThen_ok, hr]
      simp [this]
    · exact h.elim
  | .cell t ty :: r, K, h => by
    simp only [vcRes] at h
    split at h
    · rename_i q z hl hg hz
      obtain ⟨cs, hlen, hrd, hk⟩ := exP_cur h
      obtain ⟨vs, hr, hk⟩ := vcRes_ok he hk
      have ht := (he.ents t _ _ hg).2
      have hld := run_loadAt (P := P) hl hz hlen hrd
      simp only [Instr.loadAt, Instr.sureAddr, Sem.run_bind, Sem.run_pure, Result.andThen_ok] at hld
      refine ⟨rebuild z cs :: vs, ?_, hk⟩
      have h1 : (resSem a.tmps (.cell t ty)).run P w = .ok (rebuild z cs) w := by
        simp [resSem, ht, asAddr, hld]
      simp only [List.mapM_cons, Sem.run_bind, h1, Sem.run_pure, Result.andThen_ok, hr]
    · exact h.elim

theorem results_eq (fn : Func) (tmps : Array Value) : results fn tmps = (do
    let vs ← fn.results.mapM (resSem tmps)
    pure (if h : vs.size = 1 then vs[0] else .tuple vs)) := by
  have : (fun r => match r with | ResultVar.tmp t => (pure (tmps.getD t undef) : Sem Value) | .cell a t => do loadVar t (← asAddr (tmps.getD a undef))) = resSem tmps := by
    funext r; cases r <;> rfl
  rw [← this]; rfl

theorem vcRes_run {fn : Func} {env : Env} {a : Act} {w : World} {K : Value → Prop} (he : EnvOk n env a.tmps) (h : vcRes P env w fn.results.toList fun vs => K (resOf vs)) :
    ∃ v, (results fn a.tmps).run P w = .ok v w ∧ K v := by
  obtain ⟨vs, hr, hk⟩ := vcRes_ok he h
  refine ⟨_, ?_, hk⟩
  rw [results_eq, Array.mapM_eq_mapM_toList]
  simp only [Sem.run_bind, Sem.run_map, hr, Result.andThen_ok, Sem.run_pure]
  congr 1
  match vs with
  | [] => simp [resOf]
  | [v] => simp [resOf]
  | _ :: _ :: _ => simp [resOf]

/-- A FUNCTION: what its code asks gives what it does. -/
theorem calls_of_vc {f : FuncId} {fn : Func} {c : Code} {args : List Value} {w : World} {R : Ending → World → Prop} {pl : Plan} (hf : P.funcs[f]? = some fn) (hb : fn.body = some c) (hn : args.length ≤ fn.ntmps)
    (h : vcCode P fn.ntmps c pl (retK P fn.results.toList R) (envOf 0 args) w) : Calls P f args.toArray w R := by
  have he : EnvOk fn.ntmps (envOf 0 args) (args.toArray ++ Array.replicate (fn.ntmps - args.toArray.size) undef) := by
    refine ⟨by simp; omega, fun t g v hg => ?_⟩
    obtain ⟨rfl, _, hv⟩ := envOf_get hg
    refine ⟨rfl, ?_⟩
    have hlt : t < args.length := by
      rcases Nat.lt_or_ge t args.length with h | h
      · exact h
      · simp [List.getElem?_eq_none h] at hv
    rw [Array.getElem?_append_left (by simpa using hlt)]
    simpa using hv
  refine calls_of_wp hf hb ?_
  refine wp_lift (vcCode_ok c pl _ _ w { tmps := args.toArray ++ Array.replicate (fn.ntmps - args.toArray.size) undef, defers := [] } h he rfl) ?_
  intro ve env' a' w' hk h1 h2 h3
  cases ve with
  | normal =>
    obtain ⟨v, hr, hR⟩ := vcRes_run (K := fun v => R (.returned v) w') h1 hk
    exact ⟨h2, v, hr, hR⟩
  | exit i => exact hk.elim
  | ret =>
    obtain ⟨v, hr, hR⟩ := vcRes_run (K := fun v => R (.returned v) w') h1 hk
    exact ⟨h2, v, hr, hR⟩

def bodyOf (fn : Func) : Code := match fn.body with | some c => c | none => .skip
theorem calls_of_sh {f : FuncId} {fn : Func} {args : List Value} {w : World} {R : Ending → World → Prop} (pl : Plan) {S : Prop} (hf : P.funcs[f]? = some fn) (hb : fn.body = some (bodyOf fn)) (hn : Nat.ble args.length fn.ntmps = true)
    (he : vcCode P fn.ntmps (bodyOf fn) pl (retK P fn.results.toList R) (envOf 0 args) w = S) (h : S) : Calls P f args.toArray w R :=
  calls_of_vc hf hb (Nat.le_of_ble_eq_true hn) (he ▸ h)
end
end Go.Proofs.Ytknohdgcigcmdaa
