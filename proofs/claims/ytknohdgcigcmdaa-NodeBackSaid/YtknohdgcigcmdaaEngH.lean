/-
  Engine, part H: a region in the order of its text.
-/
import Derived.Test.YtknohdgcigcmdaaEngG
namespace Go.Proofs.Ytknohdgcigcmdaa
open Go.RowKit

def guardOf (ops : Array Oper) (o : Oper) (Y : List YE) (env : Env) : Option (List YE × Path) :=
  match o.guard with
  | none => some (Y, [])
  | some (j, want) => (match yfind Y j with
    | some y => some (Y, y.g ++ [(j, want)])
    | none => (match ops[j]? with
      | some oj => (match oj.dst with
        | some s => (match env.get s with
          | some (g, .bool b) => some (⟨j, s, g, b⟩ :: Y, g ++ [(j, want)])
          | _ => none)
        | none => none)
      | none => none))
def freeB (n : Nat) (Y : List YE) (d : Option Nat) : Bool :=
  match d with
  | none => true
  | some d => Nat.blt d n && Y.all fun y => !(Nat.beq y.s d)
def gxt (Y : List YE) (g : Path) (t : Nat) (want : Bool) : Path := match yslot Y t with | some j => (match yfind Y j with | some y => (match Nat.beq y.s t with | true => g ++ [(j, want)] | false => g) | none => g) | none => g
def vcStep (P : Program) (o : Oper) (Y : List YE) (g : Path) (env : Env) (w : World) (K : Value → World → Prop) : Prop :=
  match o.op with
  | .pick c x y => (match c, env.ev g c with
    | .tmp t, some (.bool b) => (match x, y with
      | .const (.bool true), _ => (match env.ev (gxt Y g t false) y with | some (.bool v) => K (.bool (b || v)) w | _ => False)
      | _, .const (.bool false) => (match env.ev (gxt Y g t true) x with | some (.bool v) => K (.bool (b && v)) w | _ => False)
      | _, _ => False)
    | _, _ => False)
  | _ => vcOp P o (env.ev g) (pcO Y g) w K
def clean : Env → Env
  | [] => []
  | (t, some ([], v)) :: r => (t, some ([], v)) :: clean r
  | (t, _) :: r => (t, none) :: clean r
def vcOps (P : Program) (n : Nat) (ops : Array Oper) : List Nat → List YE → Env → World → (Env → World → Prop) → Prop
  | [], _, env, w, K => K (clean env) w
  | i :: rest, Y, env, w, K => (match ops[i]? with
    | none => False
    | some o => (match guardOf ops o Y env with
      | none => False
      | some (Y', g) => (match freeB n Y' o.dst with
        | true => vcStep P o Y' g env w fun v w' => vcOps P n ops rest Y' (env.put o.dst g v) w' K
        | false => False)))

def Knows (Y : List YE) (g : Path) : Prop := ∀ p ∈ g, (yfind Y p.1).isSome = true

structure ROk (n : Nat) (ops : Array Oper) (Y : List YE) (env : Env) (tmps : Array Value) : Prop where
  size : tmps.size = n
  ents : ∀ t g v, env.get t = some (g, v) → Knows Y g ∧ tmps[t]? = some (if pc Y g = true then v else undef)
  ys : ∀ j y, yfind Y j = some y → Knows Y y.g ∧ (∃ oj, ops[j]? = some oj ∧ oj.dst = some y.s) ∧ tmps[y.s]? = some (if pc Y y.g = true then .bool y.b else undef)

structure EnvOk (n : Nat) (env : Env) (tmps : Array Value) : Prop where
  size : tmps.size = n
  ents : ∀ t g v, env.get t = some (g, v) → g = [] ∧ tmps[t]? = some v

def Unch (wr : List Nat) (a b : Array Value) : Prop := b.size = a.size ∧ ∀ t, t ∉ wr → b[t]? = a[t]?
theorem Unch.refl (wr : List Nat) (a : Array Value) : Unch wr a a := ⟨rfl, fun _ _ => rfl⟩
theorem Unch.trans {wr : List Nat} {a b c : Array Value} (h : Unch wr a b) (k : Unch wr b c) : Unch wr a c := ⟨k.1.trans h.1, fun t ht => (k.2 t ht).trans (h.2 t ht)⟩
theorem Unch.mono {wr wr' : List Nat} {a b : Array Value} (h : Unch wr a b) (hs : ∀ t ∈ wr, t ∈ wr') : Unch wr' a b := ⟨h.1, fun t ht => h.2 t fun hm => ht (hs t hm)⟩

theorem yfind_mem : ∀ {Y : List YE} {j : Nat} {y : YE}, yfind Y j = some y → y ∈ Y ∧ y.j = j
  | [], j, y, h => by simp [yfind] at h
  | z :: r, j, y, h => by
    simp only [yfind] at h
    split at h
    · rename_i hb
      cases h
      exact ⟨by simp, Nat.eq_of_beq_eq_true hb⟩
    · have := yfind_mem h
      exact ⟨List.mem_cons_of_mem _ this.1, this.2⟩

theorem yfind_cons {Y : List YE} {y : YE} {j : Nat} : yfind (y :: Y) j = if y.j = j then some y else yfind Y j := by
  simp only [yfind]
  split
  · rename_i h; rw [if_pos (Nat.eq_of_beq_eq_true h)]
  · rename_i h; rw [if_neg (fun e => by simp [e] at h)]

theorem lit_cons {Y : List YE} {y : YE} (hn : yfind Y y.j = none) {p : Nat × Bool} (hp : (yfind Y p.1).isSome = true) : lit (y :: Y) p = lit Y p := by
  have hne : y.j ≠ p.1 := by intro e; rw [← e, hn] at hp; simp at hp
  simp only [lit, yfind_cons, if_neg hne]
theorem pc_cons {Y : List YE} {y : YE} (hn : yfind Y y.j = none) {g : Path} (hg : Knows Y g) : pc (y :: Y) g = pc Y g := by
  rw [pc_eq, pc_eq]
  induction g with
  | nil => rfl
  | cons p r ih =>
    simp only [List.all_cons]
    rw [lit_cons hn (hg p (by simp)), ih fun q hq => hg q (List.mem_cons_of_mem _ hq)]
theorem Knows.cons {Y : List YE} {y : YE} {g : Path} (hg : Knows Y g) : Knows (y :: Y) g := fun p hp => by
  rw [yfind_cons]; split
  · rfl
  · exact hg p hp

section
variable {P : Program} {n : Nat} {ops : Array Oper} {Y Y' : List YE} {env : Env} {tmps : Array Value} {o : Oper} {g : Path}

theorem ROk.start (h : EnvOk n env tmps) : ROk n ops [] env tmps :=
  ⟨h.size, fun t g v he => by obtain ⟨rfl, hv⟩ := h.ents t g v he; exact ⟨fun p hp => by simp at hp, by simpa [pc, pcO] using hv⟩, fun j y hy => by simp [yfind] at hy⟩

theorem clean_get : ∀ {env : Env} {t : Nat} {g : Path} {v : Value}, (clean env).get t = some (g, v) → g = [] ∧ env.get t = some ([], v)
  | [], t, g, v, h => by simp [clean, Env.get] at h
  | (s, e) :: r, t, g, v, h => by
    match e with
    | none =>
      simp only [clean, Env.get] at h ⊢
      cases hb : Nat.beq s t with
      | true => rw [hb] at h; cases h
      | false => rw [hb] at h; exact clean_get h
    | some ([], u) =>
      simp only [clean, Env.get] at h ⊢
      cases hb : Nat.beq s t with
      | true => rw [hb] at h; cases h; exact ⟨rfl, rfl⟩
      | false => rw [hb] at h; exact clean_get h
    | some (p :: q, u) =>
      simp only [clean, Env.get] at h ⊢
      cases hb : Nat.beq s t with
      | true => rw [hb] at h; cases h
      | false => rw [hb] at h; exact clean_get h

theorem ROk.done (h : ROk n ops Y env tmps) : EnvOk n (clean env) tmps :=
  ⟨h.size, fun t g v he => by
    obtain ⟨rfl, he'⟩ := clean_get he
    exact ⟨rfl, by simpa [pc, pcO] using (h.ents t [] v he').2⟩⟩

/-- the guard's own state, and what it says of 'wanted' -/
theorem guard_ok {a : Act} (h : ROk n ops Y env a.tmps) (hg : guardOf ops o Y env = some (Y', g)) :
    ROk n ops Y' env a.tmps ∧ Knows Y' g ∧ Region.wanted o (yielded ops a.tmps) = pc Y' g := by
  unfold guardOf at hg
  have key : ∀ {Y : List YE} {j : Nat} {want : Bool} {y : YE}, ROk n ops Y env a.tmps → o.guard = some (j, want) → yfind Y j = some y →
      Knows Y (y.g ++ [(j, want)]) ∧ Region.wanted o (yielded ops a.tmps) = pc Y (y.g ++ [(j, want)]) := by
    intro Y j want y h ho hy
    obtain ⟨hk, ⟨oj, hoj, hd⟩, ht⟩ := h.ys j y hy
    refine ⟨fun p hp => ?_, ?_⟩
    · rcases List.mem_append.1 hp with hp | hp
      · exact hk p hp
      · simp at hp; subst hp; simp [hy]
    · have hl : lit Y (j, want) = (y.b == want) := by cases want <;> simp [lit, hy]
      rw [pc_append, show pc Y [(j, want)] = lit Y (j, want) by simp [pc_eq], hl]
      simp only [Region.wanted, ho, yielded, hoj, Option.bind_some, hd, ht]
      cases hpc : pc Y y.g
      · simp [undef]
      · simp
  split at hg
  · rename_i ho
    cases hg
    exact ⟨h, fun p hp => by simp at hp, by simp [Region.wanted, ho, pc, pcO]⟩
  · rename_i j want ho
    split at hg
    · rename_i y hy
      cases hg
      exact ⟨h, key h ho hy⟩
    · rename_i hy
      split at hg
      · rename_i oj hoj
        split at hg
        · rename_i s hs
          split at hg
          · rename_i g' b he
            cases hg
            have h' : ROk n ops (⟨j, s, g', b⟩ :: Y) env a.tmps := by
              refine ⟨h.size, fun t g v hv => ?_, fun k y hk => ?_⟩
              · obtain ⟨h1, h2⟩ := h.ents t g v hv
                exact ⟨h1.cons, by rw [pc_cons hy h1]; exact h2⟩
              · rw [yfind_cons] at hk
                split at hk
                · rename_i hjk
                  cases hk
                  obtain ⟨h1, h2⟩ := h.ents s g' _ he
                  have hjk : j = k := hjk
                  subst hjk
                  exact ⟨h1.cons, ⟨oj, hoj, hs⟩, by rw [pc_cons hy h1]; exact h2⟩
                · obtain ⟨h1, h2, h3⟩ := h.ys k y hk
                  exact ⟨h1.cons, h2, by rw [pc_cons hy h1]; exact h3⟩
            exact ⟨h', key (y := ⟨j, s, g', b⟩) h' ho (by simp [yfind_cons])⟩
          · cases hg
        · cases hg
      · cases hg

theorem ev_ok {a : Act} (h : ROk n ops Y env a.tmps) (hpc : pc Y g = true) : ∀ x v, env.ev g x = some v → a.eval x = v := by
  intro x v hx
  cases x with
  | tmp t =>
    simp only [Env.ev] at hx
    split at hx
    · rename_i g' u he
      split at hx
      · rename_i hp
        cases hx
        obtain ⟨r, rfl⟩ := prefixB_spec hp
        rw [pc_append, Bool.and_eq_true] at hpc
        have := (h.ents t _ _ he).2
        rw [if_pos hpc.1] at this
        simp [Act.eval, this]
      · cases hx
    · cases hx
  | const v => cases hx; rfl
  | global k => cases hx; rfl
  | func f => cases hx; rfl

theorem get_put {d t : Nat} {v u : Value} {g' : Path} (h : (env.put (some d) g v).get t = some (g', u)) : (t = d ∧ g' = g ∧ u = v) ∨ (t ≠ d ∧ env.get t = some (g', u)) := by
  simp only [Env.put, Env.get] at h
  split at h
  · rename_i hb; cases h; exact .inl ⟨(Nat.eq_of_beq_eq_true hb).symm, rfl, rfl⟩
  · rename_i hb; exact .inr ⟨fun e => by subst e; simp at hb, h⟩

theorem put_ok {a : Act} {v : Value} (h : ROk n ops Y env a.tmps) (hk : Knows Y g) (hf : freeB n Y o.dst = true) : ROk n ops Y (env.put o.dst g v) (a.put o.dst (if pc Y g = true then v else undef)).tmps := by
  unfold freeB at hf
  cases hd : o.dst with
  | none => simpa [Env.put, Act.put] using h
  | some d =>
    simp only [hd, Bool.and_eq_true, List.all_eq_true, Bool.not_eq_true'] at hf
    obtain ⟨hlt, hfr⟩ := hf
    have hlt : d < n := by simpa [Nat.blt_eq] using hlt
    simp only [Act.put]
    refine ⟨by simp [h.size], fun t g' u he => ?_, fun j y hy => ?_⟩
    · rcases get_put he with ⟨rfl, rfl, rfl⟩ | ⟨hne, he⟩
      · exact ⟨hk, by simp [h.size, hlt]⟩
      · obtain ⟨h1, h2⟩ := h.ents t g' u he
        exact ⟨h1, by rw [Array.getElem?_setIfInBounds_ne (Ne.symm hne)]; exact h2⟩
    · obtain ⟨h1, h2, h3⟩ := h.ys j y hy
      have hne : y.s ≠ d := by
        intro e
        have := hfr y (yfind_mem hy).1
        rw [e] at this; simp at this
      exact ⟨h1, h2, by rw [Array.getElem?_setIfInBounds_ne (Ne.symm hne)]; exact h3⟩

theorem gxt_ok {a : Act} {t : Nat} {b : Bool} (h : ROk n ops Y env a.tmps) (hpc : pc Y g = true) (ht : a.eval (.tmp t) = .bool b) (hsz : ∃ v, a.tmps[t]? = some v) : pc Y (gxt Y g t b) = true := by
  unfold gxt
  split
  · rename_i j _
    split
    · rename_i y hy
      split
      · rename_i hb
        have hs : y.s = t := Nat.eq_of_beq_eq_true hb
        obtain ⟨h1, h2, h3⟩ := h.ys j y hy
        rw [hs] at h3
        have ht' : a.tmps[t]? = some (.bool b) := by
          obtain ⟨v, hv⟩ := hsz
          simp [Act.eval, hv] at ht
          rw [hv, ht]
        rw [h3] at ht'
        have hyb : pc Y y.g = true ∧ y.b = b := by
          cases hp : pc Y y.g
          · rw [hp] at ht'; simp [undef] at ht'
          · rw [hp] at ht'; simp at ht'; exact ⟨rfl, ht'⟩
        rw [pc_append, hpc, Bool.true_and, show pc Y [(j, b)] = lit Y (j, b) by simp [pc_eq]]
        simp only [lit, hy, hyb.2]
        cases b <;> rfl
      · exact hpc
    · exact hpc
  · exact hpc

theorem vcStep_ok {a : Act} {w : World} {K : Value → World → Prop} (h : ROk n ops Y env a.tmps) (hpc : pc Y g = true) (hv : vcStep P o Y g env w K) : OpOk P o a w K := by
  unfold vcStep at hv
  split at hv
  · rename_i c x y ho
    split at hv
    · rename_i t b hc
      have hct := ev_ok h hpc _ _ hc
      have hsz : ∃ v, a.tmps[t]? = some v := by
        simp only [Env.ev] at hc
        split at hc
        · rename_i he; exact ⟨_, (h.ents t _ _ he).2⟩
        · cases hc
      split at hv
      · split at hv
        · rename_i v hy
          refine .value ?_ hv
          cases b with
          | true =>
            have hcc : a.eval (.const (.bool true)) = .bool true := rfl
            simp [execOp, ho, hct, asBool, hcc]
          | false =>
            have := ev_ok h (gxt_ok h hpc hct hsz) _ _ hy
            simp [execOp, ho, hct, asBool, this]
        · exact hv.elim
      · split at hv
        · rename_i v hx
          refine .value ?_ hv
          cases b with
          | false =>
            have hcc : a.eval (.const (.bool false)) = .bool false := rfl
            simp [execOp, ho, hct, asBool, hcc]
          | true =>
            have := ev_ok h (gxt_ok h hpc hct hsz) _ _ hx
            simp [execOp, ho, hct, asBool, this]
        · exact hv.elim
      · exact hv.elim
    · exact hv.elim
  · refine vcOp_ok ?_ (ev_ok h hpc) hv
    unfold pc at hpc
    cases hp : pcO Y g with
    | none => exact .inl rfl
    | some c => rw [hp] at hpc; simp only at hpc; subst hpc; exact .inr rfl

theorem vcStep_ex {w : World} {K : Value → World → Prop} (hpc : pc Y g = false) (hv : vcStep P o Y g env w K) : ∃ v, K v w := by
  have hp : pcO Y g = some false := by
    unfold pc at hpc
    cases hp : pcO Y g with
    | none => rw [hp] at hpc; cases hpc
    | some c => rw [hp] at hpc; simp only at hpc; rw [hpc]
  unfold vcStep at hv
  rw [hp] at hv
  split at hv
  · (repeat' split at hv) <;> first
      | exact hv.elim
      | exact ⟨_, hv⟩
  · exact vcOp_ex hv

/-- what stands behind a region, or any piece -/
def Behind (n : Nat) (wr : List Nat) (a : Act) (K : Env → World → Prop) (a' : Act) (w' : World) : Prop :=
  ∃ env', K env' w' ∧ EnvOk n env' a'.tmps ∧ a'.defers = [] ∧ Unch wr a.tmps a'.tmps

def dstsL : List Oper → List Nat
  | [] => []
  | o :: r => (match o.dst with | some d => d :: dstsL r | none => dstsL r)
theorem mem_dstsL : ∀ {l : List Oper} {o : Oper} {d : Nat}, o ∈ l → o.dst = some d → d ∈ dstsL l
  | [], _, _, h, _ => by cases h
  | p :: r, o, d, h, hd => by
    simp only [dstsL]
    rcases List.mem_cons.1 h with rfl | h
    · simp [hd]
    · split
      · exact List.mem_cons_of_mem _ (mem_dstsL h hd)
      · exact mem_dstsL h hd

theorem put_unch {wr : List Nat} {a : Act} {d : Option Nat} {v : Value} (h : ∀ k, d = some k → k ∈ wr) : Unch wr a.tmps (a.put d v).tmps := by
  cases d with
  | none => exact Unch.refl _ _
  | some k =>
    refine ⟨by simp [Act.put], fun t ht => ?_⟩
    have : k ≠ t := fun e => ht (e ▸ h k rfl)
    simp [Act.put, Array.getElem?_setIfInBounds_ne this]

theorem vcOps_ok {wr : List Nat} (hwr : ∀ o ∈ ops, ∀ k, o.dst = some k → k ∈ wr) {a0 : Act} {K : Env → World → Prop} {Q : Exit → Act → World → Prop} (hQ : ∀ a w, Behind n wr a0 K a w → Q .normal a w) :
    ∀ (l : List Nat) (Y : List YE) (env : Env) (a : Act) (w : World), vcOps P n ops l Y env w K → ROk n ops Y env a.tmps → a.defers = [] → Unch wr a0.tmps a.tmps → wpOps P ops Q l a w
  | [], Y, env, a, w, h, hr, hd, hu => hQ _ _ ⟨_, h, hr.done, hd, hu⟩
  | i :: rest, Y, env, a, w, h, hr, hd, hu => by
    simp only [vcOps] at h
    simp only [wpOps]
    split at h
    · exact h.elim
    · rename_i o ho
      have hmem : ∀ k, o.dst = some k → k ∈ wr := hwr o (Array.mem_of_getElem? ho)
      simp only [ho]
      split at h
      · exact h.elim
      · rename_i Y' g hg
        obtain ⟨hr', hk, hw⟩ := guard_ok hr hg
        split at h
        · rename_i hf
          rw [hw]
          cases hpc : pc Y' g with
          | true =>
            refine .inl (vcStep_ok hr' hpc h _ _ fun v w' hv => vcOps_ok hwr hQ rest Y' _ _ w' hv ?_ (by cases o.dst <;> simp [Act.put, hd]) (hu.trans (put_unch hmem)))
            have := put_ok (v := v) hr' hk hf
            rwa [if_pos hpc] at this
          | false =>
            obtain ⟨v, hv⟩ := vcStep_ex hpc h
            refine vcOps_ok hwr hQ rest Y' _ _ w hv ?_ (by cases o.dst <;> simp [Act.put, hd]) (hu.trans (put_unch hmem))
            have := put_ok (v := v) hr' hk hf
            rwa [hpc, if_neg (by simp)] at this
        · exact h.elim
end
end Go.Proofs.Ytknohdgcigcmdaa
