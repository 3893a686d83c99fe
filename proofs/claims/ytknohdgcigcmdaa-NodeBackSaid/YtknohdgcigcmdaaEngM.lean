/-
  Engine, part M: what a region that draws its order asks ('vcDraw'), and that it is sound.
-/
import Derived.Test.YtknohdgcigcmdaaEngL
namespace Go.Proofs.Ytknohdgcigcmdaa
open Go.RowKit

/-- which operations can come up without number r -/
def without (r : Nat) : List Oper → Array Bool → Array Bool
  | [], acc => acc
  | o :: rest, acc => without r rest (acc.push (!(Nat.beq acc.size r) && o.after.toList.all fun e => !(Region.binds .any e) || acc.getD e.on true))
/-- can e come up without r? -/
def loose (ops : Array Oper) (r e : Nat) : Bool := (without r ops.toList #[]).getD e true

abbrev Recs := List (Nat × (World → Prop))
def stab (ops : Array Oper) (e : Nat) : Recs → World → Prop → Prop
  | [], _, X => X
  | (r, S) :: rest, w, X => (match loose ops r e with | true => S w ∧ stab ops e rest w X | false => stab ops e rest w X)
def keepR (ops : Array Oper) (e : Nat) : Recs → Recs
  | [] => []
  | (r, S) :: rest => (match loose ops r e with | true => (r, S) :: keepR ops e rest | false => keepR ops e rest)
def firstNotAct (P : Program) (ops : Array Oper) : List Nat → Option Nat
  | [] => none
  | i :: r => (match ops[i]? with
    | some o => (match opClass P o with | 2 => firstNotAct P ops r | _ => some i)
    | none => firstNotAct P ops r)
def allActs (f : Nat → Prop) : List Nat → Prop
  | [] => True
  | [i] => f i
  | i :: r => f i ∧ allActs f r

def vcDr (P : Program) (n : Nat) (ops : Array Oper) : Nat → Array Bool → Recs → List YE → Env → World → (Env → World → Prop) → Prop
  | 0, listed, _, _, env, w, K => (match Region.ready .any ops listed with | [] => K (clean env) w | _ :: _ => False)
  | fuel + 1, listed, recs, Y, env, w, K => (match Region.ready .any ops listed with
    | [] => K (clean env) w
    | j :: js => (match firstNotAct P ops (j :: js) with
      | some i => (match Region.free .any ops listed i, ops[i]? with
        | true, some o => (match guardOf ops o Y env with
          | some (Y', g) => (match freeB n Y' o.dst with
            | true => (match opClass P o with
              | 0 => vcStep P o Y' g env w fun v _ => vcDr P n ops fuel (listed.setIfInBounds i true) recs Y' (env.put o.dst g v) w K
              | 1 => vcRead P o (env.ev g) (pcO Y' g) w fun v S => vcDr P n ops fuel (listed.setIfInBounds i true) ((i, S) :: recs) Y' (env.put o.dst g v) w K
              | _ => False)
            | false => False)
          | none => False)
        | _, _ => False)
      | none => allActs (fun i => (match ops[i]? with
        | some o => (match guardOf ops o Y env with
          | some (Y', g) => (match freeB n Y' o.dst with
            | true => vcStep P o Y' g env w fun v w' => stab ops i recs w' (vcDr P n ops fuel (listed.setIfInBounds i true) (keepR ops i recs) Y' (env.put o.dst g v) w' K)
            | false => False)
          | none => False)
        | none => False)) (j :: js)))

def vcDraw (P : Program) (n : Nat) (ops : Array Oper) (env : Env) (w : World) (K : Env → World → Prop) : Prop :=
  match Region.noSelect ops, P.follows .mixedOrders with
  | true, true => ∀ w', w' = w.drew → vcDr P n ops ops.size (Array.replicate ops.size false) [] [] env w' K
  | _, _ => False

section
variable {P : Program} {n : Nat} {ops : Array Oper}

theorem without_spec {listed : Array Bool} {r : Nat} (hcl : Closed .any ops listed) (hr : listed.getD r true = false) :
    ∀ (l : List Oper) (acc : Array Bool), (∀ k o, l[k]? = some o → ops[acc.size + k]? = some o) → (∀ k, k < acc.size → listed.getD k false = true → acc.getD k true = true) →
      ∀ k, listed.getD k false = true → (without r l acc).getD k true = true
  | [], acc, _, h2, k, hk => by
    simp only [without]
    rcases Nat.lt_or_ge k acc.size with h | h
    · exact h2 k h hk
    · simp [Array.getElem?_eq_none h]
  | o :: l, acc, h1, h2, k, hk => by
    simp only [without]
    refine without_spec hcl hr l _ (fun k o' hk' => ?_) (fun k hkl hk' => ?_) k hk
    · have := h1 (k + 1) o' (by simpa using hk')
      rw [Array.size_push, show acc.size + 1 + k = acc.size + (k + 1) by omega]; exact this
    · rw [Array.size_push] at hkl
      by_cases hka : k = acc.size
      · subst hka
        have ho : ops[acc.size]? = some o := by simpa using h1 0 o (by simp)
        have hne : Nat.beq acc.size r = false := by
          cases hb : Nat.beq acc.size r with
          | false => rfl
          | true =>
            have := Nat.eq_of_beq_eq_true hb
            subst this
            rcases Nat.lt_or_ge acc.size listed.size with h' | h'
            · simp [h'] at hr hk'; rw [hr] at hk'; cases hk'
            · simp [Array.getElem?_eq_none h'] at hk'
        have hall : (o.after.toList.all fun e => !(Region.binds .any e) || acc.getD e.on true) = true := by
          rw [List.all_eq_true]
          intro e he
          cases hb : Region.binds .any e with
          | false => rfl
          | true =>
            have hl := hcl acc.size o hk' ho e (by simpa using he) hb
            simp only [Bool.not_true, Bool.false_or]
            rcases Nat.lt_or_ge e.on acc.size with h | h
            · exact h2 _ h hl
            · simp [Array.getElem?_eq_none h]
        rw [hne, hall]; simp
      · have hlt : k < acc.size := by omega
        have := h2 k hlt hk'
        simp only [Array.getD_eq_getD_getElem?] at this ⊢
        rw [Array.getElem?_push, if_neg (by omega)]; exact this

/-- a read's fact holds as long as no act that waits for it has come up -/
def GR (P : Program) (ops : Array Oper) (recs : Recs) (listed : Array Bool) (w : World) : Prop :=
  ∀ p ∈ recs, (∀ e o, ops[e]? = some o → opClass P o = 2 → listed.getD e false = true → loose ops p.1 e = true) → p.2 w

theorem GR.of_set {recs : Recs} {i : Nat} {o : Oper} (hi : ops[i]? = some o) (hc : opClass P o ≠ 2) {l : Array Bool} {w : World} : GR P ops recs (l.setIfInBounds i true) w → GR P ops recs l w := by
  intro h p hp hl
  refine h p hp fun e oe hoe hce hle => ?_
  by_cases hei : e = i
  · subst hei; rw [hi] at hoe; cases hoe; exact absurd hce hc
  · rw [getD_set_ne false (Ne.symm hei)] at hle; exact hl e oe hoe hce hle
theorem GR.set {recs : Recs} {i : Nat} {l : Array Bool} {w : World} : GR P ops recs l w → GR P ops recs (l.setIfInBounds i true) w := by
  intro h p hp hl
  exact h p hp fun e oe hoe hce hle => hl e oe hoe hce (getD_set_true hle)

theorem stab_out {e : Nat} {w : World} {X : Prop} : ∀ {recs : Recs}, stab ops e recs w X → X ∧ ∀ p ∈ recs, loose ops p.1 e = true → p.2 w
  | [], h => ⟨h, by simp⟩
  | (r, S) :: rest, h => by
    simp only [stab] at h
    split at h
    · obtain ⟨h1, h2⟩ := h
      obtain ⟨hx, hr⟩ := stab_out h2
      exact ⟨hx, fun p hp => by rcases List.mem_cons.1 hp with rfl | hp; exact fun _ => h1; exact hr p hp⟩
    · rename_i hf
      obtain ⟨hx, hr⟩ := stab_out h
      exact ⟨hx, fun p hp => by rcases List.mem_cons.1 hp with rfl | hp; (intro hl; rw [hl] at hf; cases hf); exact hr p hp⟩
theorem mem_keepR {e : Nat} : ∀ {recs : Recs} {p : Nat × (World → Prop)}, p ∈ keepR ops e recs ↔ p ∈ recs ∧ loose ops p.1 e = true
  | [], p => by simp [keepR]
  | (r, S) :: rest, p => by
    simp only [keepR]
    split
    · rename_i hf
      simp only [List.mem_cons, mem_keepR]
      constructor
      · rintro (rfl | ⟨h1, h2⟩)
        · exact ⟨.inl rfl, hf⟩
        · exact ⟨.inr h1, h2⟩
      · rintro ⟨rfl | h1, h2⟩
        · exact .inl rfl
        · exact .inr ⟨h1, h2⟩
    · rename_i hf
      simp only [List.mem_cons, mem_keepR]
      constructor
      · rintro ⟨h1, h2⟩; exact ⟨.inr h1, h2⟩
      · rintro ⟨rfl | h1, h2⟩
        · rw [h2] at hf; cases hf
        · exact ⟨h1, h2⟩
/-- behind an act: the facts that go on -/
theorem GR.act {recs : Recs} {i : Nat} {o : Oper} (hi : ops[i]? = some o) (hc : opClass P o = 2) {l : Array Bool} {w' : World} (hlt : i < l.size) (hs : ∀ p ∈ recs, loose ops p.1 i = true → p.2 w') :
    GR P ops recs (l.setIfInBounds i true) w' := by
  intro p hp hl
  exact hs p hp (hl i o hi hc (by simp [hlt]))

theorem allActs_mem {f : Nat → Prop} : ∀ {l : List Nat}, allActs f l → ∀ i ∈ l, f i
  | [], _, i, hi => by cases hi
  | [j], h, i, hi => by simp at hi; subst hi; exact h
  | j :: k :: r, h, i, hi => by
    rcases List.mem_cons.1 hi with rfl | hi
    · exact h.1
    · exact allActs_mem h.2 i hi
theorem firstNotAct_some : ∀ {l : List Nat} {i : Nat}, firstNotAct P ops l = some i → i ∈ l ∧ ∃ o, ops[i]? = some o ∧ opClass P o ≠ 2
  | [], i, h => by cases h
  | j :: r, i, h => by
    simp only [firstNotAct] at h
    split at h
    · rename_i o ho
      split at h
      · obtain ⟨h1, h2⟩ := firstNotAct_some h; exact ⟨List.mem_cons_of_mem _ h1, h2⟩
      · rename_i hne; cases h; exact ⟨by simp, o, ho, fun e => hne e⟩
    · obtain ⟨h1, h2⟩ := firstNotAct_some h; exact ⟨List.mem_cons_of_mem _ h1, h2⟩
theorem firstNotAct_none : ∀ {l : List Nat}, firstNotAct P ops l = none → ∀ i ∈ l, ∀ o, ops[i]? = some o → opClass P o = 2
  | [], _, i, hi, o, ho => by cases hi
  | j :: r, h, i, hi, o, ho => by
    simp only [firstNotAct] at h
    split at h
    · rename_i oj hoj
      split at h
      · rename_i hc
        rcases List.mem_cons.1 hi with rfl | hi
        · rw [hoj] at ho; cases ho; exact hc
        · exact firstNotAct_none h i hi o ho
      · cases h
    · rename_i hn
      rcases List.mem_cons.1 hi with rfl | hi
      · rw [hn] at ho; cases ho
      · exact firstNotAct_none h i hi o ho

theorem vcDr_ok {wr : List Nat} (hsel : Region.noSelect ops = true) (hwr : ∀ o ∈ ops, ∀ k, o.dst = some k → k ∈ wr) {a0 : Act} {K : Env → World → Prop} {Q : Exit → Act → World → Prop} (hQ : ∀ a w, Behind n wr a0 K a w → Q .normal a w) (hQp : ∀ c a w, ¬ Q (.panic c) a w) :
    ∀ (fuel : Nat) (listed : Array Bool) (recs : Recs) (Y : List YE) (env : Env) (a : Act) (w : World), vcDr P n ops fuel listed recs Y env w K → ROk n ops Y env a.tmps → a.defers = [] → Unch wr a0.tmps a.tmps →
      listed.size = ops.size → Closed .any ops listed → GR P ops recs listed w → wpAnyG P .any ops Q (GR P ops recs) fuel listed a w := by
  intro fuel
  induction fuel with
  | zero =>
    intro listed recs Y env a w h hr hd hu _ _ _
    simp only [vcDr] at h
    split at h
    · rename_i hrd; exact ⟨hrd, hQ _ _ ⟨_, h, hr.done, hd, hu⟩⟩
    · exact h.elim
  | succ fuel ih =>
    intro listed recs Y env a w h hr hd hu hsz hcl hg
    simp only [vcDr] at h
    split at h
    · rename_i hrd
      exact ⟨fun _ => hQ _ _ ⟨_, h, hr.done, hd, hu⟩, by rw [hrd]; intro i hi; cases hi⟩
    · rename_i j js hrd
      split at h
      · rename_i i hf
        obtain ⟨hmem, o0, ho0, hc0⟩ := firstNotAct_some hf
        rw [← hrd] at hmem
        split at h
        · rename_i o hfree ho
          rw [ho0] at ho; cases ho
          have hmemw : ∀ k, o0.dst = some k → k ∈ wr := hwr o0 (Array.mem_of_getElem? ho0)
          split at h
          · rename_i Y' g hgu
            obtain ⟨hr', hk, hw⟩ := guard_ok hr hgu
            split at h
            · rename_i hfb
              have hdn : ∀ v, (a.put o0.dst v).defers = [] := fun v => by cases o0.dst <;> simp [Act.put, hd]
              have hlt : i < listed.size := by rw [hsz]; exact (Array.getElem?_eq_some_iff.1 ho0).1
              have hsz' : (listed.setIfInBounds i true).size = ops.size := by simp [hsz]
              have hput : ∀ v, ROk n ops Y' (env.put o0.dst g v) (a.put o0.dst (if pc Y' g = true then v else undef)).tmps := fun v => put_ok hr' hk hfb
              -- the step that both sorts share
              have take : ∀ (recs' : Recs) (S : World → Prop) (v : Value), (∀ p ∈ recs, p ∈ recs') → (∀ l w, Closed .any ops l → l.getD i true = false → GR P ops recs' l w → S w) →
                  GR P ops recs' listed w → YieldsIf P ops S o0 (if pc Y' g = true then v else undef) a →
                  vcDr P n ops fuel (listed.setIfInBounds i true) recs' Y' (env.put o0.dst g v) w K → wpAnyG P .any ops Q (GR P ops recs) (fuel + 1) listed a w := by
                intro recs' S v hsub hS hg' hy hn
                refine wpAnyG_mono (G' := GR P ops recs') (fun l w hh p hp hl => hh p (hsub p hp) hl) _ _ _ _ ?_
                refine wpAnyG_first ho0 (Region.noSelect_spec hsel) (fun c a w hq => absurd hq (hQp _ _ _)) (fun l w _ => GR.of_set ho0 hc0) hS fuel listed a w hcl (Region.free_spec ho0 hfree) hmem hy hg' hg'.set ?_
                exact ih _ _ _ _ _ _ hn (hput v) (hdn _) (hu.trans (put_unch hmemw)) hsz' (hcl.next hmem) hg'.set
              split at h
              · rename_i hc
                cases hpc : pc Y' g with
                | true =>
                  obtain ⟨v, hv, hrun⟩ := vcStep_val hc hr' hpc h
                  refine take recs (fun _ => True) v (fun _ hp => hp) (fun _ _ _ _ _ => trivial) hg ?_ hv
                  rw [if_pos hpc]
                  exact .inl ⟨by rw [hw, hpc], fun w1 _ => hrun w1⟩
                | false =>
                  obtain ⟨v, hv⟩ := vcStep_ex hpc h
                  refine take recs (fun _ => True) v (fun _ hp => hp) (fun _ _ _ _ _ => trivial) hg ?_ hv
                  rw [hpc, if_neg (by simp)]
                  exact .inr ⟨by rw [hw, hpc], rfl⟩
              · rename_i hc
                have hon : On (pcO Y' g) → pc Y' g = true := by
                  intro ho; unfold pc; rcases ho with e | e <;> rw [e]
                obtain ⟨v, S, hks, hSw, hrun⟩ := vcRead_ok (a := a) (fun ho => ev_ok hr' (hon ho)) h
                have hSx : ∀ l w, Closed .any ops l → l.getD i true = false → GR P ops ((i, S) :: recs) l w → S w := by
                  intro l w hcl' hun hh
                  refine hh (i, S) (by simp) fun e oe _ _ hle => ?_
                  exact without_spec hcl' hun ops.toList #[] (fun k o hk => by simpa using hk) (by simp) e hle
                refine take ((i, S) :: recs) S v (fun p hp => List.mem_cons_of_mem _ hp) hSx ?_ ?_ hks
                · intro p hp hl
                  rcases List.mem_cons.1 hp with rfl | hp
                  · exact hSw
                  · exact hg p hp hl
                · cases hpc : pc Y' g with
                  | true =>
                    refine .inl ⟨by rw [hw, hpc], fun w1 hs1 => ?_⟩
                    rw [if_pos rfl]
                    refine hrun ?_ w1 hs1
                    unfold pc at hpc
                    cases hp : pcO Y' g with
                    | none => exact .inl rfl
                    | some c => rw [hp] at hpc; simp only at hpc; subst hpc; exact .inr rfl
                  | false =>
                    rw [if_neg (by simp)]
                    exact .inr ⟨by rw [hw, hpc], rfl⟩
              · exact h.elim
            · exact h.elim
          · exact h.elim
        · exact h.elim
      · rename_i hf
        refine ⟨fun e => (by rw [hrd] at e; cases e), fun i hi => ?_⟩
        have hi' := hi
        rw [hrd] at hi'
        have hi2 := allActs_mem h i hi'
        split at hi2
        · rename_i o ho
          have hc : opClass P o = 2 := firstNotAct_none hf i hi' o ho
          have hmemw : ∀ k, o.dst = some k → k ∈ wr := hwr o (Array.mem_of_getElem? ho)
          have hlt : i < listed.size := by rw [hsz]; exact (Array.getElem?_eq_some_iff.1 ho).1
          have hsz' : (listed.setIfInBounds i true).size = ops.size := by simp [hsz]
          split at hi2
          · rename_i Y' g hgu
            obtain ⟨hr', hk, hw⟩ := guard_ok hr hgu
            split at hi2
            · rename_i hfb
              have hdn : ∀ v, (a.put o.dst v).defers = [] := fun v => by cases o.dst <;> simp [Act.put, hd]
              have fin : ∀ v w', stab ops i recs w' (vcDr P n ops fuel (listed.setIfInBounds i true) (keepR ops i recs) Y' (env.put o.dst g v) w' K) →
                  GR P ops recs (listed.setIfInBounds i true) w' ∧ wpAnyG P .any ops Q (GR P ops recs) fuel (listed.setIfInBounds i true) (a.put o.dst (if pc Y' g = true then v else undef)) w' := by
                intro v w' hst
                obtain ⟨hX, hS⟩ := stab_out hst
                have hga : GR P ops recs (listed.setIfInBounds i true) w' := GR.act ho hc hlt hS
                refine ⟨hga, ?_⟩
                have hgk : GR P ops (keepR ops i recs) (listed.setIfInBounds i true) w' := fun p hp hl => hS p (mem_keepR.1 hp).1 (mem_keepR.1 hp).2
                have hcl' := hcl.next hi
                have h1 := ih _ _ _ _ _ _ hX (put_ok (v := v) hr' hk hfb) (hdn _) (hu.trans (put_unch hmemw)) hsz' hcl' hgk
                refine wpAnyG_mono' (i := i) (G' := GR P ops (keepR ops i recs)) (fun l w hli hh p hp hl => ?_) _ _ _ _ (by simp [hlt]) h1
                exact hh p (mem_keepR.2 ⟨hp, hl i o ho hc hli⟩) hl
              unfold wpOp
              simp only [ho]
              rw [hw]
              cases hpc : pc Y' g with
              | true =>
                refine .inl (vcStep_ok hr' hpc hi2 _ _ fun v w' hv => ?_)
                have := fin v w' hv
                rwa [if_pos hpc] at this
              | false =>
                obtain ⟨v, hv⟩ := vcStep_ex hpc hi2
                have := fin v w hv
                rwa [hpc, if_neg (by simp)] at this
            · exact hi2.elim
          · exact hi2.elim
        · exact hi2.elim

theorem draw_ok {id : Nat} {K : Env → World → Prop} {env : Env} {a : Act} {w : World} (h : vcDraw P n ops env w K) (he : EnvOk n env a.tmps) (hd : a.defers = []) :
    (Code.region id ops true).wp P (fun e a' w' => e = .normal ∧ Behind n (dstsL ops.toList) a K a' w') a w := by
  unfold vcDraw at h
  split at h
  · rename_i hsel hm
    refine wp_region_any hm (wpAny_of_G (G := GR P ops []) _ _ _ _ ?_)
    have hg0 : ∀ l w, GR P ops [] l w := fun l w p hp => by cases hp
    have hcl : Closed .any ops (Array.replicate ops.size false) := fun k o hk => by
      exfalso
      rw [Array.getD_eq_getD_getElem?, Array.getElem?_replicate] at hk
      split at hk <;> simp at hk
    exact vcDr_ok (P := P) (Q := fun e a' w' => e = .normal ∧ Behind n (dstsL ops.toList) a K a' w') (a0 := a) hsel (fun o ho k hk => mem_dstsL (Array.mem_toList_iff.2 ho) hk) (fun a' w' hb => ⟨rfl, hb⟩) (fun c a w hq => by cases hq.1)
      ops.size (Array.replicate ops.size false) [] [] env a w.drew (h _ rfl) (ROk.start he) hd (Unch.refl _ _) (by simp) hcl (hg0 _ _)
  · exact h.elim
end
end Go.Proofs.Ytknohdgcigcmdaa
