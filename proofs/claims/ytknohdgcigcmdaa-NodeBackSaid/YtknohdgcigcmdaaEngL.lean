/-
  Engine, part L: an operation that computes only gives the same in every world.
-/
import Derived.Test.YtknohdgcigcmdaaEngK
namespace Go.Proofs.Ytknohdgcigcmdaa
open Go.RowKit

/-- the operation's value, in whatever world -/
def OpVal (P : Program) (o : Oper) (a : Act) (K : Value → Prop) : Prop := ∃ v, K v ∧ ∀ w1, (execOp a.eval o).run P w1 = .ok (.value v) w1

section
variable {P : Program} {o : Oper} {a : Act} {w : World} {K : Value → Prop} {ev : Operand → Option Value} {g : Option Bool}

theorem vcGen_val (hs : ∀ cs b, o.op ≠ .select cs b) (hev : ∀ x v, ev x = some v → a.eval x = v) (h : vcGen P o ev w fun v _ => K v) : OpVal P o a K := by
  unfold vcGen at h
  cases hk : known ev o.op with
  | false => simp [hk] at h
  | true =>
    simp only [hk] at h
    cases hp : pureRun P (execOp (evd ev) o) with
    | none => simp [hp] at h
    | some v =>
      simp only [hp, force_eq] at h
      exact ⟨v, h, fun w1 => by rw [known_eq hs hk hev]; exact pureRun_value _ v hp w1⟩

theorem vcBin_val (hg : On g) (hev : ∀ x v, ev x = some v → a.eval x = v) {op : BinOp} {t u : TypeId} {x y : Operand} (ho : o.op = .binOp op t x y u) (h : vcBin P o ev g w (fun v _ => K v) op t x y) : OpVal P o a K := by
  have hs : ∀ cs b, o.op ≠ .select cs b := by rw [ho]; intro cs b e; cases e
  have run : ∀ {vx vy r : Value}, a.eval x = vx → a.eval y = vy → (∀ (w : World) (p q : Operand), (eqGuard op t p q vx vy).run P w = .ok () w) → (∀ w : World, (binOp op t vx vy).run P w = .ok r w) → K r → OpVal P o a K := by
    intro vx vy r hx hy hgd hr hk
    refine ⟨_, hk, fun w => ?_⟩
    simp only [execOp, ho, Sem.run_bind, hx, hy, hgd w, Result.andThen_ok, hr w, Sem.run_pure]
  have noEq : op ≠ .eql → op ≠ .neq → ∀ (vx vy : Value) (w : World) (p q : Operand), (eqGuard op t p q vx vy).run P w = .ok () w := by
    intro h1 h2 vx vy w p q
    cases op <;> first | rfl | exact absurd rfl h1 | exact absurd rfl h2
  unfold vcBin at h
  split at h
  · split at h
    · rename_i hx hy
      split at h
      · rename_i hk
        have hk := of_decide_eq_true hk; subst hk
        obtain ⟨hb, hk⟩ := h
        have hb := hg.gd hb
        refine run (hev _ _ hx) (hev _ _ hy) (noEq (by simp) (by simp) _ _) (fun w => ?_) hk
        simp [binOp, Op.intDiv, hb]
      · exact h.elim
    · exact h.elim
  · split at h
    · rename_i hx hy
      split at h
      · rename_i hk
        have hk := of_decide_eq_true hk; subst hk
        obtain ⟨hb, hk⟩ := h
        have hb := hg.gd hb
        refine run (hev _ _ hx) (hev _ _ hy) (noEq (by simp) (by simp) _ _) (fun w => ?_) hk
        simp [binOp, Op.intDiv, hb]
      · exact h.elim
    · exact h.elim
  · split at h
    · rename_i hx hy
      obtain ⟨hb, hk⟩ := h
      have hb := hg.gd hb
      refine run (hev _ _ hx) (hev _ _ hy) (noEq (by simp) (by simp) _ _) (fun w => ?_) hk
      have hb' : ¬ (‹Int› : Int) < 0 := by omega
      simp only [binOp, Op.shift, if_neg hb', Sem.run_pure]
    · exact h.elim
  · split at h
    · rename_i hx hy
      obtain ⟨hb, hk⟩ := h
      have hb := hg.gd hb
      refine run (hev _ _ hx) (hev _ _ hy) (noEq (by simp) (by simp) _ _) (fun w => ?_) hk
      have hb' : ¬ (‹Int› : Int) < 0 := by omega
      simp only [binOp, Op.shift, if_neg hb', Sem.run_pure]
    · exact h.elim
  · split at h
    · split at h
      · rename_i sa sb hx hy
        obtain ⟨hb, hk⟩ := h
        have hb := hg.gd hb
        refine run (hev _ _ hx) (hev _ _ hy) (noEq (by simp) (by simp) _ _) (fun w => ?_) hk
        have hm : IntKind.i64.max = 9223372036854775807 := by decide
        have hb' : ¬ (((sa.size + sb.size : Nat) : Int) > IntKind.i64.max) := by rw [hm]; omega
        simp only [binOp, Op.stringOp, if_neg hb', Sem.run_pure]
      · exact h.elim
    · exact vcGen_val hs hev h
  · split at h
    · rename_i c hc
      have hy : a.eval y = c := by
        unfold nilC at hc
        split at hc <;> first | (cases hc; rfl) | cases hc
      split at h
      · rename_i v hx
        split at h
        · rename_i b hb
          exact run (hev _ _ hx) hy (fun w => (run_nil (w := w) hb).2.2 _) (fun w => (run_nil (w := w) hb).1) h
        · exact h.elim
      · exact h.elim
    · split at h
      · split at h
        · rename_i hx hy
          split at h
          · rename_i r hr
            obtain ⟨_, _, xs, ys, rfl, rfl⟩ := run_structEq (w := w) hr
            refine run (hev _ _ hx) (hev _ _ hy) (fun w => (run_structEq (w := w) hr).2.1 _) (fun w => ?_) h
            rw [run_eql_struct, (run_structEq (w := w) hr).1]; rfl
          · exact h.elim
        · exact h.elim
      · split at h
        · rename_i hx hy
          split at h
          · rename_i r hr
            obtain ⟨_, _, xs, ys, rfl, rfl⟩ := run_structEq (w := w) hr
            refine run (hev _ _ hx) (hev _ _ hy) (fun w => (run_structEq (w := w) hr).2.1 _) (fun w => ?_) h
            rw [run_eql_struct, (run_structEq (w := w) hr).1]; rfl
          · exact h.elim
        · exact h.elim
      · exact vcGen_val hs hev h
  · split at h
    · rename_i c hc
      have hy : a.eval y = c := by
        unfold nilC at hc
        split at hc <;> first | (cases hc; rfl) | cases hc
      split at h
      · rename_i v hx
        split at h
        · rename_i b hb
          exact run (hev _ _ hx) hy (fun w => (run_nil (w := w) hb).2.2 _) (fun w => (run_nil (w := w) hb).2.1) h
        · exact h.elim
      · exact h.elim
    · split at h
      · split at h
        · rename_i hx hy
          split at h
          · rename_i r hr
            obtain ⟨_, _, xs, ys, rfl, rfl⟩ := run_structEq (w := w) hr
            refine run (hev _ _ hx) (hev _ _ hy) (fun w => (run_structEq (w := w) hr).2.1 _) (fun w => ?_) h
            rw [run_neq_struct, (run_structEq (w := w) hr).1]; rfl
          · exact h.elim
        · exact h.elim
      · split at h
        · rename_i hx hy
          split at h
          · rename_i r hr
            obtain ⟨_, _, xs, ys, rfl, rfl⟩ := run_structEq (w := w) hr
            refine run (hev _ _ hx) (hev _ _ hy) (fun w => (run_structEq (w := w) hr).2.1 _) (fun w => ?_) h
            rw [run_neq_struct, (run_structEq (w := w) hr).1]; rfl
          · exact h.elim
        · exact h.elim
      · exact vcGen_val hs hev h
  · exact vcGen_val hs hev h

theorem vcSlice_val (hg : On g) (hev : ∀ x v, ev x = some v → a.eval x = v) {t : TypeId} {x : Operand} {lo hi mx : Option Operand} (ho : o.op = .slice t x lo hi mx)
    (h : vcSlice P ev g w (fun v _ => K v) t x lo hi mx) : OpVal P o a K := by
  unfold vcSlice at h
  have hbd : ∀ {q : Option Operand} {d l : Int}, bnd ev q d = some l → BoundIs (q.map a.eval) d l := by
    intro q d l hq
    unfold bnd at hq
    cases q with
    | none => exact .inl ⟨rfl, by simpa using hq.symm⟩
    | some q =>
      simp only at hq
      split at hq
      · rename_i k n hn
        cases hq
        exact .inr ⟨k, by simp [hev _ _ hn]⟩
      · cases hq
  split at h
  · split at h
    · split at h
      · rename_i m _ hi0 _ _ _ _ _ e b n c l hh mm hte hx hlo hhi hmm
        obtain ⟨hb, hk⟩ := h
        obtain ⟨h0, h1, h2, h3⟩ := hg.gd hb
        refine ⟨_, hk, fun w1 => ?_⟩
        have hhi' := hbd hhi
        have hmm' := hbd hmm
        rw [Option.map_some] at hhi' hmm'
        simp only [execOp, ho, Sem.run_bind, hev _ _ hx, Option.map_some, run_sliceAt3 hte (elem_both hte).2 (hbd hlo) hhi' hmm' h0 h1 h2 h3, Result.andThen_ok, Sem.run_pure]
      · exact h.elim
    · exact h.elim
  · split at h
    · rename_i e b n c hte hx
      split at h
      · rename_i l hh hlo hhi
        obtain ⟨hb, hk⟩ := h
        obtain ⟨h0, h1, h2⟩ := hg.gd hb
        refine ⟨_, hk, fun w1 => ?_⟩
        simp only [execOp, ho, Sem.run_bind, hev _ _ hx, Option.map_none, run_sliceAt hte (elem_both hte).2 (hbd hlo) (hbd hhi) h0 h1 h2, Result.andThen_ok, Sem.run_pure]
      · exact h.elim
    · rename_i s hte hx
      split at h
      · rename_i l hh hts hlo hhi
        obtain ⟨hb, hk⟩ := h
        obtain ⟨h0, h1, h2⟩ := hg.gd hb
        refine ⟨_, hk, fun w1 => ?_⟩
        simp only [execOp, ho, Sem.run_bind, hev _ _ hx, Option.map_none, run_sliceStr hts (hbd hlo) (hbd hhi) h0 h1 h2, Result.andThen_ok, Sem.run_pure]
      · exact h.elim
    · exact h.elim

/-- what sort of operation: 0 computes, 1 reads, 2 acts -/
def opClass (P : Program) (o : Oper) : Nat :=
  match o.op with
  | .load _ _ => 1
  | .convert s d _ => (match isStr P d, sliceElem P s, isStr P s, sliceElem P d with
    | true, some _, _, _ => 1
    | _, _, true, some _ => 2
    | false, some _, false, some _ => 2
    | _, _, _, _ => 0)
  | .move _ => 0 | .assign _ => 0 | .pick _ _ _ => 0 | .nilCheck _ => 0 | .indexAddr _ _ _ => 0 | .index _ _ _ => 0 | .slice _ _ _ _ _ => 0
  | .binOp _ _ _ _ _ => 0 | .unOp _ _ _ => 0 | .fieldAddr _ _ _ => 0 | .field _ _ _ => 0 | .build _ _ => 0 | .extract _ _ => 0 | .makeFunc _ _ _ => 0
  | .call c => (match c.callee with
    | .builtin .len => (match c.argTypes.toList with | [t] => (match isMap P t with | true => 2 | false => 0) | _ => 0) | .builtin .cap => 0 | .builtin .min => 0 | .builtin .max => 0
    | _ => 2)
  | _ => 2

theorem vcOp_val (hc : opClass P o = 0) (hg : On g) (hev : ∀ x v, ev x = some v → a.eval x = v) (h : vcOp P o ev g w fun v _ => K v) : OpVal P o a K := by
  unfold vcOp at h
  unfold opClass at hc
  split at h
  · rename_i x ho
    split at h
    · rename_i p hx
      obtain ⟨q, hq, hk⟩ := h
      have hq := hg.gd hq
      subst hq
      refine ⟨_, hk, fun w1 => ?_⟩
      simp only [execOp, ho, hev _ _ hx, Sem.run_pure]
    · exact h.elim
  · rename_i ho; rw [ho] at hc; cases hc
  · rename_i ho; rw [ho] at hc; cases hc
  · rename_i t x i ho
    split at h
    · rename_i e b n c k j hte hx hi
      obtain ⟨q, hq, hk⟩ := h
      obtain ⟨rfl, h0, h1⟩ := hg.gd hq
      refine ⟨_, hk, fun w1 => ?_⟩
      simp only [execOp, ho, hev _ _ hx, hev _ _ hi, Sem.run_bind, run_indexAt hte h0 h1 (elem_both hte).2, Result.andThen_ok, Sem.run_pure]
    · exact h.elim
  · rename_i t x i ho
    split at h
    · rename_i s k j hts hx hi
      obtain ⟨hq, hk⟩ := h
      obtain ⟨h0, h1⟩ := hg.gd hq
      refine ⟨_, hk, fun w1 => ?_⟩
      simp only [execOp, ho, hev _ _ hx, hev _ _ hi, Sem.run_bind, run_index hts h0 h1, Result.andThen_ok, Sem.run_pure]
    · rename_i cs k j hts hx hi
      split at h
      · rename_i n hn
        split at h
        · rename_i hsz
          obtain ⟨hq, hk⟩ := h
          obtain ⟨h0, h1⟩ := hg.gd hq
          refine ⟨_, hk, fun w1 => ?_⟩
          simp only [execOp, ho, hev _ _ hx, hev _ _ hi, Sem.run_bind, run_arrAt hn (Nat.eq_of_beq_eq_true hsz) h0 h1, Result.andThen_ok, Sem.run_pure]
        · exact h.elim
      · exact h.elim
    · exact h.elim
  · rename_i ho; exact vcSlice_val hg hev ho h
  · rename_i ho; rw [ho] at hc; cases hc
  · rename_i ho; exact vcBin_val hg hev ho h
  · rename_i s d x ho
    rw [ho] at hc
    simp only at hc
    unfold vcConv at h
    cases h1 : isStr P d <;> cases h2 : sliceElem P s <;> cases h3 : isStr P s <;> cases h4 : sliceElem P d <;> simp only [h1, h2, h3, h4] at h hc <;> first
      | exact vcGen_val (by rw [ho]; intro cs b e; cases e) hev h
      | (cases hc; done)
  · rename_i c ho
    rw [ho] at hc
    simp only at hc
    obtain ⟨ce, args, ats⟩ := c
    unfold vcCall at h
    cases ce with
    | value f => cases hc
    | invoke r m => cases hc
    | builtin b =>
      cases b <;> first
        | (cases hc; done)
        | exact vcGen_val (by rw [ho]; intro cs b e; cases e) hev h
        | skip
      simp only at hc h
      split at h
      · rename_i t x z hat _ _
        rw [hat] at hc
        split at h
        · rename_i hm; simp only [hm] at hc; cases hc
        · exact vcGen_val (by rw [ho]; intro cs b e; cases e) hev h
      · exact vcGen_val (by rw [ho]; intro cs b e; cases e) hev h
  · rename_i ho; rw [ho] at hc; cases hc
  · rename_i ho; rw [ho] at hc; cases hc
  · rename_i ho; rw [ho] at hc; cases hc
  · rename_i ho; rw [ho] at hc; cases hc
  · rename_i x ho
    split at h
    · rename_i v hx
      refine ⟨_, h, fun w1 => ?_⟩
      simp only [execOp, ho, hev _ _ hx, Sem.run_pure]
    · exact h.elim
  · rename_i x ho
    split at h
    · rename_i v hx
      refine ⟨_, vSet_out h, fun w1 => ?_⟩
      simp only [execOp, ho, hev _ _ hx, Sem.run_pure]
    · exact h.elim
  · rename_i ho; rw [ho] at hc; cases hc
  · rename_i ho; rw [ho] at hc; cases hc
  · rename_i ho; rw [ho] at hc; cases hc
  · rename_i ho; rw [ho] at hc; cases hc
  · rename_i ho; rw [ho] at hc; cases hc
  · rename_i ho; exact vcGen_val (by rw [ho]; intro cs b e; cases e) hev h
  · rename_i s x f ho
    split at h
    · rename_i p hx
      obtain ⟨q, rfl, h2⟩ := onPtr_out h
      clear h
      split at h2
      · rename_i v hv
        rw [force_eq] at h2
        refine ⟨_, h2, fun w1 => ?_⟩
        have he : execOp a.eval o = execOp (fun _ => .pointer (some q)) o := by simp only [execOp, ho, hev _ _ hx]
        rw [he]; exact pureRun_value _ v hv w1
      · exact h2.elim
    · exact h.elim
  · rename_i ho; exact vcGen_val (by rw [ho]; intro cs b e; cases e) hev h
  · rename_i ho; exact vcGen_val (by rw [ho]; intro cs b e; cases e) hev h
  · rename_i ho; exact vcGen_val (by rw [ho]; intro cs b e; cases e) hev h
  · rename_i ho; exact vcGen_val (by rw [ho]; intro cs b e; cases e) hev h
  · exact h.elim

variable {n : Nat} {ops : Array Oper} {Y : List YE} {env : Env} {gp : Path}
theorem vcStep_val (hc : opClass P o = 0) (h : ROk n ops Y env a.tmps) (hpc : pc Y gp = true) (hv : vcStep P o Y gp env w fun v _ => K v) : OpVal P o a K := by
  unfold vcStep at hv
  split at hv
  · rename_i c x y ho
    split at hv
    · rename_i t b hcv
      have hct := ev_ok h hpc _ _ hcv
      have hsz : ∃ v, a.tmps[t]? = some v := by
        simp only [Env.ev] at hcv
        split at hcv
        · rename_i he; exact ⟨_, (h.ents t _ _ he).2⟩
        · cases hcv
      split at hv
      · split at hv
        · rename_i v hy
          refine ⟨_, hv, fun w1 => ?_⟩
          cases b with
          | true =>
            have hcc : a.eval (.const (.bool true)) = .bool true := rfl
            simp [execOp, ho, hct, asBool, hcc]
          | false =>
            have := ev_ok h (gxt_ok h hpc hct hsz) _ _ hy
            simp [execOp, ho, hct, asBool, this]
        · exact hv.elim
      · split at hv
        · rename_i v hx
          refine ⟨_, hv, fun w1 => ?_⟩
          cases b with
          | false =>
            have hcc : a.eval (.const (.bool false)) = .bool false := rfl
            simp [execOp, ho, hct, asBool, hcc]
          | true =>
            have := ev_ok h (gxt_ok h hpc hct hsz) _ _ hx
            simp [execOp, ho, hct, asBool, this]
        · exact hv.elim
      · exact hv.elim
    · exact hv.elim
  · refine vcOp_val hc ?_ (ev_ok h hpc) hv
    unfold pc at hpc
    cases hp : pcO Y gp with
    | none => exact .inl rfl
    | some c => rw [hp] at hpc; simp only at hpc; subst hpc; exact .inr rfl

/-- an operation that reads: its value, and what must stay so while it may still be to come -/
def vcRead (P : Program) (o : Oper) (ev : Operand → Option Value) (g : Option Bool) (w : World) (K : Value → (World → Prop) → Prop) : Prop :=
  match o.op with
  | .load t x => (match loadable P t, ev x, zeroOf P t with
    | true, some (.pointer p), some z => onPtr p fun a => VLd g w a (flatCT z) (curP (flatCT z) fun vs => K (rebuild z vs) fun w' => gd g (Rd w' a vs))
    | _, _, _ => False)
  | .convert src dst x => (match isStr P dst, sliceElem P src, ev x with
    | true, some e, some (.slice b n _) => (match P.underlying e with
      | some (.int .u8) => VStr g w b n fun s => K (.string s) fun w' => gd g (Seg w' b n 1 (strCells s))
      | _ => False)
    | _, _, _ => False)
  | _ => False

theorem vcRead_ok {KS : Value → (World → Prop) → Prop} (hev : On g → ∀ x v, ev x = some v → a.eval x = v) (h : vcRead P o ev g w KS) :
    ∃ v S, KS v S ∧ S w ∧ (On g → ∀ w1, S w1 → (execOp a.eval o).run P w1 = .ok (.value v) w1) := by
  unfold vcRead at h
  split at h
  · rename_i t x ho
    split at h
    · rename_i q0 z hl hx hz
      obtain ⟨q, rfl, h⟩ := onPtr_out h
      obtain ⟨vs, hlen, hr, hk⟩ := exP_cur h
      refine ⟨_, _, hk, hr, fun hg w1 hr1 => ?_⟩
      simp only [execOp, ho, hev hg _ _ hx, Sem.run_bind, run_loadAt hl hz hlen (hg.gd hr1), Result.andThen_ok, Sem.run_pure]
    · exact h.elim
  · rename_i src dst x ho
    split at h
    · rename_i e b m c hd hse hx
      split at h
      · rename_i he
        obtain ⟨s, hs, hk⟩ := h
        refine ⟨_, _, hk, hs, fun hg w1 hs1 => ?_⟩
        simp only [execOp, ho, hev hg _ _ hx, Sem.run_bind, run_toString hse he hd (hg.gd hs1), Result.andThen_ok, Sem.run_pure]
      · exact h.elim
    · exact h.elim
  · exact h.elim
end
end Go.Proofs.Ytknohdgcigcmdaa
