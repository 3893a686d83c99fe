/-
  Engine, part I: a function's code, and that it is sound.
-/
import Derived.Test.YtknohdgcigcmdaaEngM
import Derived.Deep.LoopGhost
namespace Go.Proofs.Ytknohdgcigcmdaa
open Go.RowKit

inductive VExit where
  | normal | exit (id : Nat) | ret
def VExit.toExit : VExit → Exit
  | .normal => .normal | .exit i => .exit i | .ret => .ret

/-- what the generator is told besides: where ways meet, and which slots live there -/
inductive Plan where
  | auto
  | two (p q : Plan)
  | join (ss : List (Nat × Value)) (p q : Plan)
  | one (p : Plan)
  | bjoin (ss : List (Nat × Value)) (p : Plan)
  | loop (ss : List (Nat × Value)) (p : Plan)

def writes : Code → List Nat
  | .region _ ops _ => dstsL ops.toList
  | .seq a b => writes a ++ writes b
  | .cond _ a b => writes a ++ writes b
  | .block _ a => writes a
  | .loop a => writes a
  | .scope a => writes a
  | .rangeFunc _ _ a b => writes a ++ writes b
  | _ => []

def kill : List Nat → Env → Env
  | [], env => env
  | t :: r, env => (t, none) :: kill r env
def slotCT : List (Nat × Value) → List CT
  | [] => []
  | (_, z) :: r => flatCT z ++ slotCT r
/-- the cells of a slot's value, of its zero's shape -/
def shaped (z v : Value) : Option (List Value) :=
  match z, v with
  | .agg zs, .agg cs => (match Nat.beq cs.size zs.size with | true => some cs.toList | false => none)
  | .agg _, _ => none
  | .tuple _, _ => none
  | _, .agg _ => none
  | _, v => some [v]
def slotVals : List (Nat × Value) → Env → Option (List Value)
  | [], _ => some []
  | (t, z) :: r, env => (match env.get t with
    | some (_, v) => (match shaped z v, slotVals r env with | some l, some l' => some (l ++ l') | _, _ => none)
    | none => none)
def putAll : List (Nat × Value) → List Value → Env → Env
  | [], _, env => env
  | (t, z) :: r, vs, env => (t, some ([], rebuild z (vs.take (flatCT z).length))) :: putAll r (vs.drop (flatCT z).length) env

def feed : (ts : List CT) → List Value → ArrW ts → World → Prop
  | [], [], Φ, w => Φ w
  | .int k :: ts, .int k' n :: vs, Φ, w => (match decide (k = k') with | true => feed ts vs (Φ n) w | false => False)
  | .bool :: ts, .bool b :: vs, Φ, w => feed ts vs (Φ b) w
  | .str :: ts, .string s :: vs, Φ, w => feed ts vs (Φ s) w
  | .sl :: ts, .slice a n c :: vs, Φ, w => feed ts vs (Φ ⟨a, n, c⟩) w
  | .ptr :: ts, .pointer p :: vs, Φ, w => feed ts vs (Φ p) w
  | .adr :: ts, .pointer (some a) :: vs, Φ, w => feed ts vs (Φ a) w
  | .mp :: ts, .map r :: vs, Φ, w => feed ts vs (Φ r) w
  | .any :: ts, v :: vs, Φ, w => feed ts vs (Φ v) w
  | _, _, _, _ => False
def allI : (ts : List CT) → ArrW ts → (List Value → World → Prop) → Prop
  | [], Φ, R => ∀ w, Φ w → R [] w
  | t :: ts, Φ, R => ∀ x : t.D, allI ts (Φ x) fun l => R (t.val x :: l)
theorem feed_all : ∀ {ts : List CT} {vs : List Value} {Φ : ArrW ts} {w : World} {R : List Value → World → Prop}, feed ts vs Φ w → allI ts Φ R → R vs w
  | [], [], Φ, w, R, h, ha => ha w h
  | [], _ :: _, Φ, w, R, h, ha => by simp [feed] at h
  | t :: ts, [], Φ, w, R, h, ha => by cases t <;> simp [feed] at h
  | t :: ts, v :: vs, Φ, w, R, h, ha => by
    have step : ∀ x : t.D, t.val x = v → feed ts vs (Φ x) w → R (v :: vs) w := by
      intro x hx hf
      subst hx
      exact feed_all (R := fun l => R (t.val x :: l)) hf (ha x)
    cases t
    case any => exact step v rfl h
    case int k =>
      cases v <;> first
        | exact (show False from h).elim
        | (rename_i k' m
           have h' : (match decide (k = k') with | true => feed ts vs (Φ m) w | false => False) := h
           split at h'
           · rename_i hk; have hk := of_decide_eq_true hk; subst hk; exact step _ rfl h'
           · exact h'.elim)
    case adr =>
      cases v <;> first
        | exact (show False from h).elim
        | (rename_i p; cases p with
           | none => exact (show False from h).elim
           | some a => exact step a rfl h)
    case sl => cases v <;> first | exact (show False from h).elim | exact step ⟨_, _, _⟩ rfl h
    all_goals (cases v <;> first | exact (show False from h).elim | exact step _ rfl h)

def feedO (ss : List (Nat × Value)) (env : Env) (Φ : ArrW (slotCT ss)) (w : World) : Prop :=
  match slotVals ss env with
  | some vs => feed (slotCT ss) vs Φ w
  | none => False

def vcCode (P : Program) (n : Nat) : Code → Plan → (VExit → Env → World → Prop) → Env → World → Prop
  | .skip, _, K, env, w => K .normal env w
  | .label _, _, K, env, w => K .normal env w
  | .exit i, _, K, env, w => K (.exit i) env w
  | .ret, _, K, env, w => K .ret env w
  | .region _ ops draw, pl, K, env, w => (match draw, pl with
    | false, _ => vcOps P n ops (List.range ops.size) [] env w fun env' w' => K .normal env' w'
    | true, .bjoin ss _ => ∃ Φ : ArrW (slotCT ss), vcDraw P n ops env w (fun env' w' => feedO ss env' Φ w') ∧ allI (slotCT ss) Φ fun vs w' => K .normal (putAll ss vs (kill (dstsL ops.toList) env)) w'
    | true, _ => vcDraw P n ops env w fun env' w' => K .normal env' w')
  | .seq a b, pl, K, env, w => (match pl with
    | .two p q => vcCode P n a p (fun e env' w' => match e with | .normal => vcCode P n b q K env' w' | .exit i => K (.exit i) env' w' | .ret => K .ret env' w') env w
    | .join ss p q => ∃ Φ : ArrW (slotCT ss), vcCode P n a p (fun e env' w' => match e with | .normal => feedO ss env' Φ w' | .exit i => K (.exit i) env' w' | .ret => K .ret env' w') env w ∧
        allI (slotCT ss) Φ fun vs w' => vcCode P n b q K (putAll ss vs (kill (writes a) env)) w'
    | _ => vcCode P n a .auto (fun e env' w' => match e with | .normal => vcCode P n b .auto K env' w' | .exit i => K (.exit i) env' w' | .ret => K .ret env' w') env w)
  | .cond c x y, pl, K, env, w => (match env.ev [] c with
    | some (.bool t) => (match pl with
      | .two p q => VIf t (vcCode P n x p K env w) (vcCode P n y q K env w)
      | _ => VIf t (vcCode P n x .auto K env w) (vcCode P n y .auto K env w))
    | _ => False)
  | .block i c, pl, K, env, w => (match pl with
    | .bjoin ss p => ∃ Φ : ArrW (slotCT ss), vcCode P n c p (fun e env' w' => match e with
          | .normal => feedO ss env' Φ w'
          | .exit j => (match Nat.beq j i with | true => feedO ss env' Φ w' | false => K (.exit j) env' w')
          | .ret => K .ret env' w') env w ∧
        allI (slotCT ss) Φ fun vs w' => K .normal (putAll ss vs (kill (writes c) env)) w'
    | .one p => vcCode P n c p (fun e env' w' => match e with
          | .normal => K .normal env' w'
          | .exit j => (match Nat.beq j i with | true => K .normal env' w' | false => K (.exit j) env' w')
          | .ret => K .ret env' w') env w
    | _ => vcCode P n c .auto (fun e env' w' => match e with
          | .normal => K .normal env' w'
          | .exit j => (match Nat.beq j i with | true => K .normal env' w' | false => K (.exit j) env' w')
          | .ret => K .ret env' w') env w)
  | .loop c, pl, K, env, w => (match pl with
    | .loop ss p => ∃ I : Nat → ArrW (slotCT ss), (∃ k, feedO ss env (I k) w) ∧
        ∀ k, allI (slotCT ss) (I k) fun vs w' => vcCode P n c p (fun e env' w'' => match e with
          | .normal => ∃ k', k' < k ∧ feedO ss env' (I k') w''
          | .exit j => K (.exit j) env' w''
          | .ret => K .ret env' w'') (putAll ss vs (kill (writes c) env)) w'
    | _ => False)
  | .goto _, _, _, _, _ => False
  | .rangeFunc _ _ _ _, _, _, _, _ => False
  | .scope _, _, _, _, _ => False
  | .refuse _, _, _, _, _ => False

section
variable {P : Program} {n : Nat}

def Lift (n : Nat) (wr : List Nat) (a : Act) (K : VExit → Env → World → Prop) (e : Exit) (a' : Act) (w' : World) : Prop :=
  ∃ ve env', e = ve.toExit ∧ K ve env' w' ∧ EnvOk n env' a'.tmps ∧ a'.defers = [] ∧ Unch wr a.tmps a'.tmps

theorem kill_get : ∀ {l : List Nat} {env : Env} {t : Nat} {x : Path × Value}, (kill l env).get t = some x → t ∉ l ∧ env.get t = some x
  | [], env, t, x, h => ⟨by simp, h⟩
  | s :: r, env, t, x, h => by
    simp only [kill, Env.get] at h
    cases hb : Nat.beq s t with
    | true => rw [hb] at h; cases h
    | false =>
      rw [hb] at h
      obtain ⟨h1, h2⟩ := kill_get h
      refine ⟨?_, h2⟩
      intro hm
      rcases List.mem_cons.1 hm with rfl | hm
      · simp at hb
      · exact h1 hm

theorem shaped_ok {z v : Value} {l : List Value} (h : shaped z v = some l) : l.length = (flatCT z).length ∧ rebuild z l = v := by
  cases z with
  | agg zs =>
    cases v with
    | agg cs =>
      have h' : (match Nat.beq cs.size zs.size with | true => some cs.toList | false => none) = some l := h
      split at h'
      · rename_i hs
        cases h'
        have := Nat.eq_of_beq_eq_true hs
        simp [flatCT, rebuild, this]
      · cases h'
    | _ => cases h
  | tuple zs => cases h
  | _ => cases v <;> first | (cases h; done) | (cases h; exact ⟨rfl, rfl⟩)

theorem putAll_ok {wr : List Nat} {env : Env} {a b : Array Value} (he : EnvOk n env a) (hu : Unch wr a b) : ∀ {ss : List (Nat × Value)} {env' : Env} {vs : List Value}, EnvOk n env' b → slotVals ss env' = some vs →
    EnvOk n (putAll ss vs (kill wr env)) b
  | [], env', vs, h', hs => ⟨h'.size, fun t g v hg => by
      obtain ⟨h1, h2⟩ := kill_get hg
      obtain ⟨rfl, h3⟩ := he.ents t g v h2
      exact ⟨rfl, by rw [hu.2 t h1]; exact h3⟩⟩
  | (s, z) :: r, env', vs, h', hs => by
    simp only [slotVals] at hs
    split at hs
    · rename_i g v hg
      split at hs
      · rename_i l l' hl hl'
        cases hs
        obtain ⟨hlen, hrb⟩ := shaped_ok hl
        have ih := putAll_ok he hu h' hl'
        refine ⟨h'.size, fun t g' u hg' => ?_⟩
        simp only [putAll, Env.get] at hg'
        cases hb : Nat.beq s t with
        | true =>
          rw [hb] at hg'
          have hst := Nat.eq_of_beq_eq_true hb
          subst hst
          simp only [← hlen, List.take_left, hrb, Option.some.injEq, Prod.mk.injEq] at hg'
          obtain ⟨rfl, rfl⟩ := hg'
          exact ⟨rfl, (h'.ents s g v hg).2⟩
        | false =>
          rw [hb] at hg'
          rw [← hlen, List.drop_left] at hg'
          exact ih.ents t g' u hg'
      · cases hs
    · cases hs

theorem wp_lift {c : Code} {Q : Exit → Act → World → Prop} {a : Act} {w : World} {K : VExit → Env → World → Prop} {wr : List Nat} (h : c.wp P (Lift n wr a K) a w)
    (hq : ∀ ve env' a' w', K ve env' w' → EnvOk n env' a'.tmps → a'.defers = [] → Unch wr a.tmps a'.tmps → Q ve.toExit a' w') : c.wp P Q a w :=
  wp_mono h fun e a' w' ⟨ve, env', he, hk, h1, h2, h3⟩ => by subst he; exact hq ve env' a' w' hk h1 h2 h3

theorem region_ok {id : Nat} {ops : Array Oper} {K : Env → World → Prop} {env : Env} {a : Act} {w : World} (h : vcOps P n ops (List.range ops.size) [] env w K) (he : EnvOk n env a.tmps) (hd : a.defers = []) :
    (Code.region id ops false).wp P (Lift n (dstsL ops.toList) a fun e env' w' => e = .normal ∧ K env' w') a w := by
  refine wp_region (vcOps_ok (wr := dstsL ops.toList) (a0 := a) (K := K) (fun o ho k hk => mem_dstsL (Array.mem_toList_iff.2 ho) hk) ?_ _ [] env a w h (ROk.start he) hd (Unch.refl _ _))
  rintro a' w' ⟨env', hk, h1, h2, h3⟩
  exact ⟨.normal, env', rfl, ⟨rfl, hk⟩, h1, h2, h3⟩
theorem drawL_ok {id : Nat} {ops : Array Oper} {K : Env → World → Prop} {env : Env} {a : Act} {w : World} (h : vcDraw P n ops env w K) (he : EnvOk n env a.tmps) (hd : a.defers = []) :
    (Code.region id ops true).wp P (Lift n (dstsL ops.toList) a fun e env' w' => e = .normal ∧ K env' w') a w := by
  refine wp_mono (draw_ok h he hd) ?_
  rintro e a' w' ⟨rfl, env', hk, h1, h2, h3⟩
  exact ⟨.normal, env', rfl, ⟨rfl, hk⟩, h1, h2, h3⟩

theorem vcCode_ok : ∀ (c : Code) (pl : Plan) (K : VExit → Env → World → Prop) (env : Env) (w : World) (a : Act), vcCode P n c pl K env w → EnvOk n env a.tmps → a.defers = [] →
    c.wp P (Lift n (writes c) a K) a w := by
  intro c
  induction c with
  | skip => intro pl K env w a h he hd; exact wp_skip ⟨.normal, env, rfl, h, he, hd, Unch.refl _ _⟩
  | label l => intro pl K env w a h he hd; exact wp_label ⟨.normal, env, rfl, h, he, hd, Unch.refl _ _⟩
  | exit i => intro pl K env w a h he hd; exact wp_exit ⟨.exit i, env, rfl, h, he, hd, Unch.refl _ _⟩
  | ret => intro pl K env w a h he hd; exact wp_ret ⟨.ret, env, rfl, h, he, hd, Unch.refl _ _⟩
  | goto l => intro pl K env w a h; exact (show False from h).elim
  | refuse r => intro pl K env w a h; exact (show False from h).elim
  | rangeFunc f ps x y _ _ => intro pl K env w a h; exact (show False from h).elim
  | scope c _ => intro pl K env w a h; exact (show False from h).elim
  | region id ops draw =>
    intro pl K env w a h he hd
    have fin : ∀ {Q : Exit → Act → World → Prop}, (∀ e a' w', Lift n (dstsL ops.toList) a (fun e env' w' => e = .normal ∧ K .normal env' w') e a' w' → Q e a' w') → (Code.region id ops draw).wp P Q a w := by
      intro Q hq
      simp only [vcCode] at h
      cases draw with
      | false => exact wp_mono (region_ok h he hd) hq
      | true =>
        have direct : vcDraw P n ops env w (fun env' w' => K .normal env' w') → (Code.region id ops true).wp P Q a w := fun h => wp_mono (drawL_ok h he hd) hq
        cases pl with
        | bjoin ss p =>
          obtain ⟨Φ, hx, hy⟩ := h
          refine wp_mono (drawL_ok hx he hd) ?_
          rintro e a' w' ⟨ve, env', rfl, ⟨rfl, hk⟩, h1, h2, h3⟩
          unfold feedO at hk
          split at hk
          · rename_i vs hvs
            exact hq _ _ _ ⟨.normal, _, rfl, ⟨rfl, feed_all hk hy⟩, putAll_ok he h3 h1 hvs, h2, h3⟩
          · exact hk.elim
        | _ => exact direct h
    refine fin ?_
    rintro e a' w' ⟨ve, env', rfl, ⟨rfl, hk⟩, h1, h2, h3⟩
    exact ⟨.normal, env', rfl, hk, h1, h2, h3⟩
  | seq x y ihx ihy =>
    intro pl K env w a h he hd
    have mx : ∀ t ∈ writes x, t ∈ writes (.seq x y) := fun t ht => List.mem_append.2 (.inl ht)
    have my : ∀ t ∈ writes y, t ∈ writes (.seq x y) := fun t ht => List.mem_append.2 (.inr ht)
    have plain : ∀ p q, vcCode P n x p (fun e env' w' => match e with | .normal => vcCode P n y q K env' w' | .exit i => K (.exit i) env' w' | .ret => K .ret env' w') env w → (Code.seq x y).wp P (Lift n (writes (.seq x y)) a K) a w := by
      intro p q h
      refine wp_seq (wp_lift (ihx p _ env w a h he hd) ?_)
      intro ve env' a' w' hk h1 h2 h3
      cases ve with
      | normal =>
        refine wp_lift (ihy q K env' w' a' hk h1 h2) ?_
        intro ve env'' a'' w'' hk g1 g2 g3
        exact ⟨ve, env'', rfl, hk, g1, g2, (h3.mono mx).trans (g3.mono my)⟩
      | exit i => exact ⟨.exit i, env', rfl, hk, h1, h2, h3.mono mx⟩
      | ret => exact ⟨.ret, env', rfl, hk, h1, h2, h3.mono mx⟩
    cases pl with
    | two p q => exact plain p q h
    | join ss p q =>
      obtain ⟨Φ, hx, hy⟩ := h
      refine wp_seq (wp_lift (ihx p _ env w a hx he hd) ?_)
      intro ve env' a' w' hk h1 h2 h3
      cases ve with
      | normal =>
        have hk' : feedO ss env' Φ w' := hk
        unfold feedO at hk'
        split at hk'
        · rename_i vs hvs
          have hy' := feed_all hk' hy
          refine wp_lift (ihy q K _ w' a' hy' (putAll_ok he h3 h1 hvs) h2) ?_
          intro ve env'' a'' w'' hk g1 g2 g3
          exact ⟨ve, env'', rfl, hk, g1, g2, (h3.mono mx).trans (g3.mono my)⟩
        · exact hk'.elim
      | exit i => exact ⟨.exit i, env', rfl, hk, h1, h2, h3.mono mx⟩
      | ret => exact ⟨.ret, env', rfl, hk, h1, h2, h3.mono mx⟩
    | _ => exact plain .auto .auto h
  | cond c x y ihx ihy =>
    intro pl K env w a h he hd
    have mx : ∀ t ∈ writes x, t ∈ writes (.cond c x y) := fun t ht => List.mem_append.2 (.inl ht)
    have my : ∀ t ∈ writes y, t ∈ writes (.cond c x y) := fun t ht => List.mem_append.2 (.inr ht)
    simp only [vcCode] at h
    split at h
    · rename_i t ht
      have hev : a.eval c = .bool t := by
        cases c with
        | tmp s =>
          simp only [Env.ev] at ht
          split at ht
          · rename_i hg
            obtain ⟨rfl, hs⟩ := he.ents s _ _ hg
            simp only [prefixB] at ht
            cases ht
            simp [Act.eval, hs]
          · cases ht
        | const v => cases ht; rfl
        | global k => cases ht
        | func f => cases ht
      have fin : ∀ p q, VIf t (vcCode P n x p K env w) (vcCode P n y q K env w) → (Code.cond c x y).wp P (Lift n (writes (.cond c x y)) a K) a w := by
        intro p q h
        refine wp_cond_split hev (fun e => wp_lift (ihx p K env w a (h.1 e) he hd) ?_) (fun e => wp_lift (ihy q K env w a (h.2 e) he hd) ?_)
        · intro ve env' a' w' hk h1 h2 h3; exact ⟨ve, env', rfl, hk, h1, h2, h3.mono mx⟩
        · intro ve env' a' w' hk h1 h2 h3; exact ⟨ve, env', rfl, hk, h1, h2, h3.mono my⟩
      cases pl with
      | two p q => exact fin p q h
      | _ => exact fin .auto .auto h
    · exact h.elim
  | block i c ih =>
    intro pl K env w a h he hd
    have plain : ∀ p, vcCode P n c p (fun e env' w' => match e with
          | .normal => K .normal env' w'
          | .exit j => (match Nat.beq j i with | true => K .normal env' w' | false => K (.exit j) env' w')
          | .ret => K .ret env' w') env w → (Code.block i c).wp P (Lift n (writes c) a K) a w := by
      intro p h
      refine wp_block (wp_lift (ih p _ env w a h he hd) ?_)
      intro ve env' a' w' hk h1 h2 h3
      cases ve with
      | normal => exact ⟨.normal, env', rfl, hk, h1, h2, h3⟩
      | exit j =>
        simp only [VExit.toExit, Exit.inBlock]
        by_cases hj : j = i
        · subst hj
          have : K .normal env' w' := by simpa using hk
          rw [if_pos rfl]
          exact ⟨.normal, env', rfl, this, h1, h2, h3⟩
        · have hb : Nat.beq j i = false := by
            cases hb : Nat.beq j i with
            | true => exact absurd (Nat.eq_of_beq_eq_true hb) hj
            | false => rfl
          simp only [hb] at hk
          rw [if_neg hj]
          exact ⟨.exit j, env', rfl, hk, h1, h2, h3⟩
      | ret => exact ⟨.ret, env', rfl, hk, h1, h2, h3⟩
    cases pl with
    | one p => exact plain p h
    | bjoin ss p =>
      obtain ⟨Φ, hx, hy⟩ := h
      have meet : ∀ {env' : Env} {a' : Act} {w' : World}, feedO ss env' Φ w' → EnvOk n env' a'.tmps → a'.defers = [] → Unch (writes c) a.tmps a'.tmps → Lift n (writes c) a K .normal a' w' := by
        intro env' a' w' hk' h1 h2 h3
        unfold feedO at hk'
        split at hk'
        · rename_i vs hvs
          exact ⟨.normal, _, rfl, feed_all hk' hy, putAll_ok he h3 h1 hvs, h2, h3⟩
        · exact hk'.elim
      refine wp_block (wp_lift (ih p _ env w a hx he hd) ?_)
      intro ve env' a' w' hk h1 h2 h3
      cases ve with
      | normal => exact meet hk h1 h2 h3
      | exit j =>
        simp only [VExit.toExit, Exit.inBlock]
        by_cases hj : j = i
        · subst hj
          rw [if_pos rfl]
          exact meet (by simpa using hk) h1 h2 h3
        · have hb : Nat.beq j i = false := by
            cases hb : Nat.beq j i with
            | true => exact absurd (Nat.eq_of_beq_eq_true hb) hj
            | false => rfl
          simp only [hb] at hk
          rw [if_neg hj]
          exact ⟨.exit j, env', rfl, hk, h1, h2, h3⟩
      | ret => exact ⟨.ret, env', rfl, hk, h1, h2, h3⟩
    | _ => exact plain .auto h
  | loop c ih =>
    intro pl K env w a h he hd
    cases pl with
    | loop ss p =>
      obtain ⟨I, ⟨k0, h0⟩, hround⟩ := h
      refine wp_loop_ghost (fun k a' w' => a'.defers = [] ∧ Unch (writes c) a.tmps a'.tmps ∧ ∃ vs, feed (slotCT ss) vs (I k) w' ∧ EnvOk n (putAll ss vs (kill (writes c) env)) a'.tmps) k0 ?_ ?_
      · unfold feedO at h0
        split at h0
        · rename_i vs hvs
          exact ⟨hd, Unch.refl _ _, vs, h0, putAll_ok he (Unch.refl _ _) he hvs⟩
        · exact h0.elim
      · rintro k a' w' ⟨hd', hu, vs, hf, he'⟩
        have hb := feed_all hf (hround k)
        refine wp_lift (ih p _ _ w' a' hb he' hd') ?_
        intro ve env' a'' w'' hk h1 h2 h3
        cases ve with
        | normal =>
          obtain ⟨k', hlt, hk'⟩ := hk
          refine ⟨k', hlt, h2, hu.trans h3, ?_⟩
          unfold feedO at hk'
          split at hk'
          · rename_i vs' hvs
            exact ⟨vs', hk', putAll_ok he (hu.trans h3) h1 hvs⟩
          · exact hk'.elim
        | exit j => exact ⟨.exit j, env', rfl, hk, h1, h2, hu.trans h3⟩
        | ret => exact ⟨.ret, env', rfl, hk, h1, h2, hu.trans h3⟩
    | _ => exact (show False from h).elim

end
end Go.Proofs.Ytknohdgcigcmdaa
