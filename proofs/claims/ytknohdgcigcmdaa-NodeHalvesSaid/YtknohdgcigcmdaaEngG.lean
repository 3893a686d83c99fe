/-
  Engine, part G: 'vcOp' is sound.
-/
import Derived.Test.YtknohdgcigcmdaaEngF
import Derived.Laws.Externs
namespace Go.Proofs.Ytknohdgcigcmdaa
open Go.RowKit

section
variable {P : Program} {o : Oper} {a : Act} {w : World} {K : Value → World → Prop} {ev : Operand → Option Value} {g : Option Bool}

theorem vcBin_ok (hg : On g) (hev : ∀ x v, ev x = some v → a.eval x = v) {op : BinOp} {t u : TypeId} {x y : Operand} (ho : o.op = .binOp op t x y u) (h : vcBin P o ev g w K op t x y) : OpOk P o a w K := by
  have hs : ∀ cs b, o.op ≠ .select cs b := by rw [ho]; intro cs b e; cases e
  have run : ∀ {vx vy r : Value}, a.eval x = vx → a.eval y = vy → (∀ p q : Operand, (eqGuard op t p q vx vy).run P w = .ok () w) → (binOp op t vx vy).run P w = .ok r w → K r w → OpOk P o a w K := by
    intro vx vy r hx hy hgd hr hk
    refine .value ?_ hk
    simp only [execOp, ho, Sem.run_bind, hx, hy, hgd, Result.andThen_ok, hr, Sem.run_pure]
  have noEq : op ≠ .eql → op ≠ .neq → ∀ (vx vy : Value) (p q : Operand), (eqGuard op t p q vx vy).run P w = .ok () w := by
    intro h1 h2 vx vy p q
    cases op <;> first | rfl | exact absurd rfl h1 | exact absurd rfl h2
  unfold vcBin at h
  split at h
  · split at h
    · rename_i hx hy
      split at h
      · rename_i hk
        have hk := of_decide_eq_true hk; subst hk
        obtain ⟨hb, hk⟩ := h
        have hb := hg.gd hb
        refine run (hev _ _ hx) (hev _ _ hy) (noEq (by simp) (by simp) _ _) ?_ hk
        simp [binOp, Op.intDiv, hb]
      · exact h.elim
    · exact h.elim
  · split at h
    · rename_i hx hy
      split at h
      · rename_i hk
        have hk := of_decide_eq_true hk; subst hk
        obtain ⟨hb, hk⟩ := h
        have hb := hg.gd hb
        refine run (hev _ _ hx) (hev _ _ hy) (noEq (by simp) (by simp) _ _) ?_ hk
        simp [binOp, Op.intDiv, hb]
      · exact h.elim
    · exact h.elim
  · split at h
    · rename_i hx hy
      obtain ⟨hb, hk⟩ := h
      have hb := hg.gd hb
      refine run (hev _ _ hx) (hev _ _ hy) (noEq (by simp) (by simp) _ _) ?_ hk
      have hb' : ¬ (‹Int› : Int) < 0 := by omega
      simp only [binOp, Op.shift, if_neg hb', Sem.run_pure]
    · exact h.elim
  · split at h
    · rename_i hx hy
      obtain ⟨hb, hk⟩ := h
      have hb := hg.gd hb
      refine run (hev _ _ hx) (hev _ _ hy) (noEq (by simp) (by simp) _ _) ?_ hk
      have hb' : ¬ (‹Int› : Int) < 0 := by omega
      simp only [binOp, Op.shift, if_neg hb', Sem.run_pure]
    · exact h.elim
  · split at h
    · split at h
      · rename_i sa sb hx hy
        obtain ⟨hb, hk⟩ := h
        have hb := hg.gd hb
        refine run (hev _ _ hx) (hev _ _ hy) (noEq (by simp) (by simp) _ _) ?_ hk
        have hm : IntKind.i64.max = 9223372036854775807 := by decide
        have hb' : ¬ (((sa.size + sb.size : Nat) : Int) > IntKind.i64.max) := by rw [hm]; omega
        simp only [binOp, Op.stringOp, if_neg hb', Sem.run_pure]
      · exact h.elim
    · exact vcGen_ok hs hev h
  · split at h
    · rename_i c hc
      have hy : a.eval y = c := by
        unfold nilC at hc
        split at hc <;> first | (cases hc; rfl) | cases hc
      split at h
      · rename_i v hx
        split at h
        · rename_i b hb
          obtain ⟨h1, h2, h3⟩ := run_nil (w := w) hb
          exact run (hev _ _ hx) hy (h3 _) h1 h
        · exact h.elim
      · exact h.elim
    · split at h
      · split at h
        · rename_i hx hy
          split at h
          · rename_i r hr
            obtain ⟨h1, h2, xs, ys, rfl, rfl⟩ := run_structEq (w := w) hr
            refine run (hev _ _ hx) (hev _ _ hy) (h2 _) ?_ h
            rw [run_eql_struct, h1]; rfl
          · exact h.elim
        · exact h.elim
      · split at h
        · rename_i hx hy
          split at h
          · rename_i r hr
            obtain ⟨h1, h2, xs, ys, rfl, rfl⟩ := run_structEq (w := w) hr
            refine run (hev _ _ hx) (hev _ _ hy) (h2 _) ?_ h
            rw [run_eql_struct, h1]; rfl
          · exact h.elim
        · exact h.elim
      · exact vcGen_ok hs hev h
  · split at h
    · rename_i c hc
      have hy : a.eval y = c := by
        unfold nilC at hc
        split at hc <;> first | (cases hc; rfl) | cases hc
      split at h
      · rename_i v hx
        split at h
        · rename_i b hb
          obtain ⟨h1, h2, h3⟩ := run_nil (w := w) hb
          exact run (hev _ _ hx) hy (h3 _) h2 h
        · exact h.elim
      · exact h.elim
    · split at h
      · split at h
        · rename_i hx hy
          split at h
          · rename_i r hr
            obtain ⟨h1, h2, xs, ys, rfl, rfl⟩ := run_structEq (w := w) hr
            refine run (hev _ _ hx) (hev _ _ hy) (h2 _) ?_ h
            rw [run_neq_struct, h1]; rfl
          · exact h.elim
        · exact h.elim
      · split at h
        · rename_i hx hy
          split at h
          · rename_i r hr
            obtain ⟨h1, h2, xs, ys, rfl, rfl⟩ := run_structEq (w := w) hr
            refine run (hev _ _ hx) (hev _ _ hy) (h2 _) ?_ h
            rw [run_neq_struct, h1]; rfl
          · exact h.elim
        · exact h.elim
      · exact vcGen_ok hs hev h
  · exact vcGen_ok hs hev h

theorem vcBin_ex {op : BinOp} {t : TypeId} {x y : Operand} (h : vcBin P o ev (some false) w K op t x y) : ∃ v, K v w := by
  unfold vcBin at h
  (repeat' split at h) <;> first
    | exact h.elim
    | exact ⟨_, h.2⟩
    | exact ⟨_, h⟩
    | exact vcGen_ex h

theorem vcSlice_ok (hg : On g) (hev : ∀ x v, ev x = some v → a.eval x = v) {t : TypeId} {x : Operand} {lo hi mx : Option Operand} (ho : o.op = .slice t x lo hi mx)
    (h : vcSlice P ev g w K t x lo hi mx) : OpOk P o a w K := by
  unfold vcSlice at h
  have hbd : ∀ {q : Option Operand} {d l : Int}, bnd ev q d = some l → BoundIs (q.map a.eval) d l := by
    intro q d l hq
    unfold bnd at hq
    cases q with
    | none => exact .inl ⟨rfl, by simpa using hq.symm⟩
    | some q =>
      simp only at hq
      split at hq
      · rename_i k n hn
        cases hq
        exact .inr ⟨k, by simp [hev _ _ hn]⟩
      · cases hq
  split at h
  · split at h
    · split at h
      · rename_i m _ hi0 _ _ _ _ _ e b n c l hh mm hte hx hlo hhi hmm
        obtain ⟨hb, hk⟩ := h
        obtain ⟨h0, h1, h2, h3⟩ := hg.gd hb
        refine .value ?_ hk
        have hhi' := hbd hhi
        have hmm' := hbd hmm
        rw [Option.map_some] at hhi' hmm'
        simp only [execOp, ho, Sem.run_bind, hev _ _ hx, Option.map_some, run_sliceAt3 hte (elem_both hte).2 (hbd hlo) hhi' hmm' h0 h1 h2 h3, Result.andThen_ok, Sem.run_pure]
      · exact h.elim
    · exact h.elim
  · split at h
    · rename_i e b n c hte hx
      split at h
      · rename_i l hh hlo hhi
        obtain ⟨hb, hk⟩ := h
        obtain ⟨h0, h1, h2⟩ := hg.gd hb
        refine .value ?_ hk
        simp only [execOp, ho, Sem.run_bind, hev _ _ hx, Option.map_none, run_sliceAt hte (elem_both hte).2 (hbd hlo) (hbd hhi) h0 h1 h2, Result.andThen_ok, Sem.run_pure]
      · exact h.elim
    · rename_i s hte hx
      split at h
      · rename_i l hh hts hlo hhi
        obtain ⟨hb, hk⟩ := h
        obtain ⟨h0, h1, h2⟩ := hg.gd hb
        refine .value ?_ hk
        simp only [execOp, ho, Sem.run_bind, hev _ _ hx, Option.map_none, run_sliceStr hts (hbd hlo) (hbd hhi) h0 h1 h2, Result.andThen_ok, Sem.run_pure]
      · exact h.elim
    · exact h.elim
theorem vcSlice_ex {t : TypeId} {x : Operand} {lo hi mx : Option Operand} (h : vcSlice P ev (some false) w K t x lo hi mx) : ∃ v, K v w := by
  unfold vcSlice at h
  (repeat' split at h) <;> first
    | exact h.elim
    | exact ⟨_, h.2⟩

theorem allEv_map (hev : ∀ x v, ev x = some v → a.eval x = v) : ∀ {l : List Operand} {vs : List Value}, allEv ev l = some vs → l.map a.eval = vs
  | [], vs, h => by simp [allEv] at h; simp [h]
  | x :: l, vs, h => by
    simp only [allEv] at h
    split at h
    · rename_i v vs' hx hl
      cases h
      simp [hev _ _ hx, allEv_map hev hl]
    · cases h

theorem vcCall_ok (hg : On g) (hev : ∀ x v, ev x = some v → a.eval x = v) {c : Call} (ho : o.op = .call c) (h : vcCall P o ev g w K c) : OpOk P o a w K := by
  have hs : ∀ cs b, o.op ≠ .select cs b := by rw [ho]; intro cs b e; cases e
  obtain ⟨ce, ⟨args⟩, ⟨ats⟩⟩ := c
  unfold vcCall at h
  split at h
  · rename_i f hf
    simp only at hf; subst hf
    have main : ∀ {n : FuncId} {fst cap : Array Value} {vs : List Value} {z : Value}, ev f = some (.func (.func n) fst cap) → allEv ev args = some vs → callee P n = true →
        (Calls P n (fst ++ vs.toArray ++ cap) w fun e w' => exW (flatCT z) (fun vs => e = .returned (rebuild z vs)) (curW (flatCT z) fun vs w' => K (rebuild z vs) w') w') → OpOk P o a w K := by
      intro n fst cap vs z hv hvs hc hcl
      unfold callee at hc
      split at hc
      · rename_i fn hfn
        simp only [Bool.and_eq_true, Bool.not_eq_true', beq_eq_false_iff_ne, ne_eq] at hc
        obtain ⟨hb, hn⟩ := hc
        have hargs : args.toArray.map a.eval = vs.toArray := by
          rw [← allEv_map hev hvs]; simp
        refine .enter (f := n) (args := fst ++ vs.toArray ++ cap) (w' := w) ?_ ?_
        · have hbn : fn.body.isNone = false := by cases hbb : fn.body <;> simp_all
          simp only [execOp, ho, resolve, Sem.run_bind, hev _ _ hv, Deferred.ofValue, hargs, Sem.run_pure, Result.andThen_ok, invoke, callFunc, run_program, hfn]
          simp [hn, hbn]
        · refine hcl.mono fun e w' he => ?_
          obtain ⟨ws, _, hr, hk⟩ := exW_cur he
          exact ⟨_, hr, hk⟩
      · cases hc
    split at h
    · split at h
      · rename_i n fst cap vs z hv hvs hz
        split at h
        · rename_i hc
          refine main (z := z) hv hvs hc ?_
          rcases hg with rfl | rfl
          · exact h
          · exact h.1 rfl
        · split at h
          · rename_i e he
            obtain ⟨v, w', hr, hex⟩ := hg.run_ h
            obtain ⟨ws, _, hv2, hk⟩ := exW_cur hex
            subst hv2
            have hargs : args.toArray.map a.eval = vs.toArray := by
              rw [← allEv_map hev hvs]; simp
            unfold externOf at he
            split at he
            · rename_i fn hfn
              split at he
              · rename_i hcond
                simp only [Bool.and_eq_true, Bool.not_eq_true', beq_eq_false_iff_ne, ne_eq, Option.isNone_iff_eq_none] at hcond
                obtain ⟨⟨hb, hn⟩, hnx⟩ := hcond
                refine .value ?_ hk
                simp only [execOp, ho, resolve, Sem.run_bind, hev _ _ hv, Deferred.ofValue, hargs, Sem.run_pure, Result.andThen_ok, invoke]
                rw [run_callFunc_extern hfn (by simpa using hn) (by simp [hb]) hnx he, hr]
                rfl
              · cases he
            · cases he
          · exact h.elim
      · exact h.elim
    · split at h
      · rename_i v vs z hv hvs hz
        have h := hg.dyn h
        obtain ⟨n, fst, cap, rfl, hc, hk⟩ := h
        exact main (z := z) hv hvs hc hk
      · exact h.elim
  · rename_i hf
    simp only at hf; subst hf
    split at h
    · rename_i t u b n cp x hat hvs
      simp only at hat hvs
      have hargs : args.toArray.map a.eval = #[.slice b n cp, x] := by
        rw [List.map_toArray, allEv_map hev hvs]
      subst hat
      split at h
      · rename_i e hte
        split at h
        · rename_i z hz hpos
          have happ : ∀ {v w'}, (Builtin.append_ #[t, u] o.type #[.slice b n cp, x]).run P w = .ok v w' → K v w' → OpOk P o a w K := by
            intro v w' hr hk
            refine .value ?_ hk
            simp only [execOp, ho, resolve, Sem.run_bind, Sem.run_pure, Result.andThen_ok, invoke, builtin, hargs, hr]
          split at h
          · rename_i hzs
            split at h
            · rename_i bb b' m c' e' hue
              have h := hg.app h
              · obtain ⟨news, hsrc, hl, hb, h63, hfit, hgrow⟩ := h
                obtain ⟨v, w', hr, hk⟩ := run_appends (P := P) (u := u) (ty := o.type) (x := .slice b' m c') hte hz (.inl ⟨e', elem_und hue⟩) (by simp [Builtin.lenOf])
                  (fun W hW => run_first (w := W) (c := c') ⟨hsrc.1, hsrc.2.imp id fun ⟨q, hq, hrd⟩ => ⟨q, hq, fun i v hv => by rw [← hrd i v hv]; simp [World.cell?, hW]⟩⟩) hl hb h63 hfit hgrow
                exact happ hr hk
            · rename_i s hue hus
              split at h
              · rename_i hone
                have h := hg.app h
                · obtain ⟨news, hsrc, hl, hb, h63, hfit, hgrow⟩ := h
                  obtain ⟨v, w', hr, hk⟩ := run_appends (P := P) (u := u) (ty := o.type) (x := .string s) hte hz (.inr (str_und hus)) (by simp [Builtin.lenOf])
                    (fun W hW => by subst hsrc; simp [Builtin.firstCells, strCells, ← List.map_toArray]) hl hb h63 hfit hgrow
                  exact happ hr hk
              · exact h.elim
            · rename_i l hue hus
              split at h
              · rename_i hone
                obtain ⟨k, hk'⟩ := int_und hone
                have h := hg.app h
                obtain ⟨news, ⟨hl0, hlm, hnews⟩, hl, hb, h63, hfit, hgrow⟩ := h
                obtain ⟨v, w', hr, hk⟩ := run_appends_mk (P := P) (u := u) (ty := o.type) hte hz hk' hl0 hlm hnews hl hb h63 hfit hgrow
                exact happ hr hk
              · exact h.elim
            · exact h.elim
          · exact h.elim
        · exact h.elim
      · exact h.elim
    · exact h.elim
  · rename_i hf
    simp only at hf; subst hf
    split at h
    · rename_i t u b n cp x hat hvs
      simp only at hat hvs
      have hargs : args.toArray.map a.eval = #[.slice b n cp, x] := by
        rw [List.map_toArray, allEv_map hev hvs]
      subst hat
      split at h
      · rename_i e hte
        split at h
        · rename_i sx hue
          split at h
          · rename_i hone
            simp only [Bool.and_eq_true] at hone
            have h := hg.copy h
            · obtain ⟨news, hsrc, hl, hk⟩ := h
              subst hsrc
              have he : ∃ i, P.info? e = some i := (elem_both hte).2
              obtain ⟨v, w', hr, hk⟩ := run_copies_str (P := P) (u := u) (ty := o.type) (cap := cp) hte he (size_one hone.2) hk
              refine .value ?_ hk
              simp only [execOp, ho, resolve, Sem.run_bind, Sem.run_pure, Result.andThen_ok, invoke, builtin, hargs, hr]
          · exact h.elim
        · rename_i b' m c' e' hue
          have h := hg.copy h
          · obtain ⟨news, hsrc, hl, hk⟩ := h
            have he : ∃ i, P.info? e = some i := (elem_both hte).2
            obtain ⟨v, w', hr, hk⟩ := run_copies (P := P) (u := u) (ty := o.type) (cap := cp) (c := c') hte he hsrc hk
            refine .value ?_ hk
            simp only [execOp, ho, resolve, Sem.run_bind, Sem.run_pure, Result.andThen_ok, invoke, builtin, hargs, hr]
        · exact h.elim
      · exact h.elim
    · exact h.elim
  · rename_i hf
    simp only at hf; subst hf
    split at h
    · rename_i t x z hat hvs hz
      simp only at hat hvs
      have hargs : args.toArray.map a.eval = #[x] := by
        rw [List.map_toArray, allEv_map hev hvs]
      subst hat
      split at h
      · obtain ⟨v, w', hr, hex⟩ := hg.run_ h
        obtain ⟨ws, _, hv, hk⟩ := exW_cur hex
        subst hv
        refine .value ?_ hk
        simp only [execOp, ho, resolve, Sem.run_bind, Sem.run_pure, Result.andThen_ok, invoke, builtin, hargs, hr]
      · exact vcGen_ok hs hev h
    · exact vcGen_ok hs hev h
  · rename_i hf
    simp only at hf; subst hf
    split at h
    · rename_i xs z hvs hz
      simp only at hvs
      have hargs : args.toArray.map a.eval = xs.toArray := by
        rw [List.map_toArray, allEv_map hev hvs]
      obtain ⟨v, w', hr, hex⟩ := hg.run_ h
      obtain ⟨ws, _, hv, hk⟩ := exW_cur hex
      subst hv
      refine .value ?_ hk
      simp only [execOp, ho, resolve, Sem.run_bind, Sem.run_pure, Result.andThen_ok, invoke, builtin, hargs, hr]
    · exact h.elim
  · rename_i hf
    simp only at hf; subst hf
    split at h
    · rename_i xs z hvs hz
      simp only at hvs
      have hargs : args.toArray.map a.eval = xs.toArray := by
        rw [List.map_toArray, allEv_map hev hvs]
      obtain ⟨v, w', hr, hex⟩ := hg.run_ h
      obtain ⟨ws, _, hv, hk⟩ := exW_cur hex
      subst hv
      refine .value ?_ hk
      simp only [execOp, ho, resolve, Sem.run_bind, Sem.run_pure, Result.andThen_ok, invoke, builtin, hargs, hr]
    · exact h.elim
  · exact vcGen_ok hs hev h
  · exact vcGen_ok hs hev h
  · exact vcGen_ok hs hev h
  · exact h.elim

theorem vcCall_ex {c : Call} (h : vcCall P o ev (some false) w K c) : ∃ v, K v w := by
  unfold vcCall at h
  (repeat' split at h) <;> first
    | exact h.elim
    | (obtain ⟨vs, _, _, hk⟩ := exW_cur (h.2 rfl); exact ⟨_, hk⟩)
    | (obtain ⟨s, hk⟩ := h.2 rfl; exact ⟨_, hk⟩)
    | exact ⟨_, h.2 rfl⟩
    | exact vcGen_ex h

theorem run_mark {src e : TypeId} {a : Addr} {n c : Nat} (hs : sliceElem P src = some e) (he : P.underlying e = some (.int .u8)) :
    (convert src src (.slice (some a) n c)).run P w = .ok (.slice (some a) n c) (markW w a) := by
  have ht := elem_und hs
  cases hsh : w.shape? a.block with
  | none => simp [convert, und ht, und he, markStringish, hsh, markW]
  | some p => simp [convert, und ht, und he, markStringish, hsh, markW]

theorem vcConv_ok (hg : On g) (hev : ∀ x v, ev x = some v → a.eval x = v) {s d : TypeId} {x : Operand} (ho : o.op = .convert s d x) (h : vcConv P o ev g w K s d x) : OpOk P o a w K := by
  have hs : ∀ cs b, o.op ≠ .select cs b := by rw [ho]; intro cs b e; cases e
  unfold vcConv at h
  split at h
  · rename_i _ _ e hd hse
    split at h
    · rename_i b n c he hx
      obtain ⟨t, ht, hk⟩ := h
      refine .value ?_ hk
      simp only [execOp, ho, Sem.run_bind, hev _ _ hx, run_toString hse he hd (hg.gd ht), Result.andThen_ok, Sem.run_pure]
    · exact h.elim
  · rename_i _ _ e hse hd _
    split at h
    · rename_i t he hx
      have h := hg.bytes h
      · obtain ⟨c, w', hc, hr, hn⟩ := run_toBytes (w := w) (s := t) hse hd he
        refine .value (w' := w') ?_ (h _ c w' hc hn)
        simp only [execOp, ho, Sem.run_bind, hev _ _ hx, hr, Result.andThen_ok, Sem.run_pure]
    · exact h.elim
  · rename_i e _ _ hse _ _
    split at h
    · rename_i a n c hsd he hx
      have hsd := Nat.eq_of_beq_eq_true hsd
      subst hsd
      refine .value ?_ (hg.mark h)
      simp only [execOp, ho, Sem.run_bind, hev _ _ hx, run_mark hse he, Result.andThen_ok, Sem.run_pure]
    · exact h.elim
  · exact vcGen_ok hs hev h
theorem vcConv_ex {s d : TypeId} {x : Operand} (h : vcConv P o ev (some false) w K s d x) : ∃ v, K v w := by
  unfold vcConv at h
  (repeat' split at h) <;> first
    | exact h.elim
    | exact (show False from h).elim
    | (obtain ⟨t, _, hk⟩ := h; exact ⟨_, hk⟩)
    | (obtain ⟨b, c, hk⟩ := h.2 rfl; exact ⟨_, hk⟩)
    | exact ⟨_, h.2 rfl⟩
    | exact vcGen_ex h

theorem vcOp_ok (hg : On g) (hev : ∀ x v, ev x = some v → a.eval x = v) (h : vcOp P o ev g w K) : OpOk P o a w K := by
  unfold vcOp at h
  split at h
  · rename_i x ho
    split at h
    · rename_i p hx
      obtain ⟨q, hq, hk⟩ := h
      have hq := hg.gd hq
      subst hq
      refine .value ?_ hk
      simp only [execOp, ho, hev _ _ hx, Sem.run_pure]
    · exact h.elim
  · rename_i t x ho
    split at h
    · rename_i q0 z hl hx hz
      obtain ⟨q, rfl, h⟩ := onPtr_out h
      obtain ⟨vs, hlen, hr, hk⟩ := exP_cur h
      refine .value ?_ hk
      simp only [execOp, ho, hev _ _ hx, Sem.run_bind, run_loadAt hl hz hlen (hg.gd hr), Result.andThen_ok, Sem.run_pure]
    · exact h.elim
  · rename_i t x y ho
    split at h
    · rename_i q0 v hx hy
      split at h
      · rename_i hs
        obtain ⟨q, rfl, h⟩ := onPtr_out h
        have h' : v.cells.toList.all Value.oneCell' = true ∧ Wr w q v.cells.toList.length ∧ ∀ w', w' = sets w q v.cells.toList → K undef w' := by
          rcases hg with rfl | rfl
          · exact h
          · exact h.1 rfl
        refine .skip ?_ (h'.2.2 _ rfl)
        simp only [execOp, ho, hev _ _ hx, hev _ _ hy, Sem.run_bind, run_storeAt hs h'.1 h'.2.1, Result.andThen_ok, Sem.run_pure]
      · exact h.elim
    · exact h.elim
  · rename_i t x i ho
    split at h
    · rename_i e b n c k j hte hx hi
      obtain ⟨q, hq, hk⟩ := h
      obtain ⟨rfl, h0, h1⟩ := hg.gd hq
      refine .value ?_ hk
      simp only [execOp, ho, hev _ _ hx, hev _ _ hi, Sem.run_bind, run_indexAt hte h0 h1 (elem_both hte).2, Result.andThen_ok, Sem.run_pure]
    · exact h.elim
  · rename_i t x i ho
    split at h
    · rename_i s k j hts hx hi
      obtain ⟨hq, hk⟩ := h
      obtain ⟨h0, h1⟩ := hg.gd hq
      refine .value ?_ hk
      simp only [execOp, ho, hev _ _ hx, hev _ _ hi, Sem.run_bind, run_index hts h0 h1, Result.andThen_ok, Sem.run_pure]
    · rename_i cs k j hts hx hi
      split at h
      · rename_i n hn
        split at h
        · rename_i hsz
          obtain ⟨hq, hk⟩ := h
          obtain ⟨h0, h1⟩ := hg.gd hq
          refine .value ?_ hk
          simp only [execOp, ho, hev _ _ hx, hev _ _ hi, Sem.run_bind, run_arrAt hn (Nat.eq_of_beq_eq_true hsz) h0 h1, Result.andThen_ok, Sem.run_pure]
        · exact h.elim
      · exact h.elim
    · exact h.elim
  · rename_i ho; exact vcSlice_ok hg hev ho h
  · rename_i t l c ho
    split at h
    · rename_i e l' c' hte hl hc
      split at h
      · rename_i z hz hpos
        have h := hg.made h
        · obtain ⟨h0, h1, h2, h3, hk⟩ := h
          refine .value ?_ (hk _ _ (NewB.alloc w _))
          simp only [execOp, ho, hev _ _ hl, hev _ _ hc, Sem.run_bind, run_makeSl hte hz h0 h1 h2 h3, Result.andThen_ok, Sem.run_pure]
      · exact h.elim
    · exact h.elim
  · rename_i ho; exact vcBin_ok hg hev ho h
  · rename_i ho; exact vcConv_ok hg hev ho h
  · rename_i ho; exact vcCall_ok hg hev ho h
  · rename_i ho; exact vcNew_ok hg (by rw [ho]; intro cs b e; cases e) hev h
  · rename_i ho; exact vcNew_ok hg (by rw [ho]; intro cs b e; cases e) hev h
  · rename_i ho; exact vcNew_ok hg (by rw [ho]; intro cs b e; cases e) hev h
  · rename_i ho; exact vcNew_ok hg (by rw [ho]; intro cs b e; cases e) hev h
  · rename_i x ho
    split at h
    · rename_i v hx
      refine .value ?_ h
      simp only [execOp, ho, hev _ _ hx, Sem.run_pure]
    · exact h.elim
  · rename_i x ho
    split at h
    · rename_i v hx
      refine .value ?_ (vSet_out h)
      simp only [execOp, ho, hev _ _ hx, Sem.run_pure]
    · exact h.elim
  · rename_i t x i ok ho
    split at h
    · rename_i m k z hx hi hz
      obtain ⟨v, w', hr, hex⟩ := hg.run_ h
      obtain ⟨ws, _, hv, hk⟩ := exW_cur hex
      subst hv
      refine .value ?_ hk
      simp only [execOp, ho, hev _ _ hx, hev _ _ hi, Sem.run_bind, hr, Result.andThen_ok, Sem.run_pure]
    · exact h.elim
  · rename_i t x i ho
    split at h
    · rename_i m k z hx hi hz
      obtain ⟨v, w', hr, hex⟩ := hg.run_ h
      obtain ⟨ws, _, hv, hk⟩ := exW_cur hex
      subst hv
      refine .value ?_ hk
      simp only [execOp, ho, hev _ _ hx, hev _ _ hi, Sem.run_bind, hr, Result.andThen_ok, Sem.run_pure]
    · exact h.elim
  · rename_i t x i y ho
    split at h
    · rename_i m k v hx hi hy
      obtain ⟨w', hr, hk⟩ := hg.runU h
      refine .skip ?_ hk
      simp only [execOp, ho, hev _ _ hx, hev _ _ hi, hev _ _ hy, Sem.run_bind, hr, Result.andThen_ok, Sem.run_pure]
    · exact h.elim
  · rename_i t x i y ho
    split at h
    · rename_i m k v hx hi hy
      obtain ⟨w', hr, hk⟩ := hg.runU h
      refine .skip ?_ hk
      simp only [execOp, ho, hev _ _ hx, hev _ _ hi, hev _ _ hy, Sem.run_bind, hr, Result.andThen_ok, Sem.run_pure]
    · exact h.elim
  · rename_i t x i y ho
    split at h
    · rename_i m k v hx hi hy
      obtain ⟨w', hr, hk⟩ := hg.runU h
      refine .skip ?_ hk
      simp only [execOp, ho, hev _ _ hx, hev _ _ hi, hev _ _ hy, Sem.run_bind, hr, Result.andThen_ok, Sem.run_pure]
    · exact h.elim
  · rename_i ho; exact vcGen_ok (by rw [ho]; intro cs b e; cases e) hev h
  · rename_i s x f ho
    split at h
    · rename_i p hx
      obtain ⟨q, rfl, h2⟩ := onPtr_out h
      clear h
      split at h2
      · rename_i v hv
        rw [force_eq] at h2
        refine .value ?_ h2
        have he : execOp a.eval o = execOp (fun _ => .pointer (some q)) o := by simp only [execOp, ho, hev _ _ hx]
        rw [he]; exact pureRun_value _ v hv w
      · exact h2.elim
    · exact h.elim
  · rename_i ho; exact vcGen_ok (by rw [ho]; intro cs b e; cases e) hev h
  · rename_i ho; exact vcGen_ok (by rw [ho]; intro cs b e; cases e) hev h
  · rename_i ho; exact vcGen_ok (by rw [ho]; intro cs b e; cases e) hev h
  · rename_i ho; exact vcGen_ok (by rw [ho]; intro cs b e; cases e) hev h
  · exact h.elim

theorem vcOp_ex (h : vcOp P o ev (some false) w K) : ∃ v, K v w := by
  unfold vcOp at h
  split at h
  · split at h
    · obtain ⟨q, _, hk⟩ := h; exact ⟨_, hk⟩
    · exact h.elim
  · split at h
    · obtain ⟨q, _, h⟩ := onPtr_out h; obtain ⟨vs, _, _, hk⟩ := exP_cur h; exact ⟨_, hk⟩
    · exact h.elim
  · split at h
    · split at h
      · obtain ⟨q, _, h⟩ := onPtr_out h; exact ⟨_, h.2 rfl⟩
      · exact h.elim
    · exact h.elim
  · split at h
    · obtain ⟨q, _, hk⟩ := h; exact ⟨_, hk⟩
    · exact h.elim
  · split at h
    · obtain ⟨_, hk⟩ := h; exact ⟨_, hk⟩
    · split at h
      · split at h
        · obtain ⟨_, hk⟩ := h; exact ⟨_, hk⟩
        · exact h.elim
      · exact h.elim
    · exact h.elim
  · exact vcSlice_ex h
  · split at h
    · split at h
      · obtain ⟨b, hk⟩ := h.2 rfl; exact ⟨_, hk⟩
      · exact h.elim
    · exact h.elim
  · exact vcBin_ex h
  · exact vcConv_ex h
  · exact vcCall_ex h
  · exact vcNew_ex h
  · exact vcNew_ex h
  · exact vcNew_ex h
  · exact vcNew_ex h
  · split at h
    · exact ⟨_, h⟩
    · exact h.elim
  · split at h
    · exact ⟨_, vSet_out h⟩
    · exact h.elim
  · split at h
    · obtain ⟨_, _, _, hk⟩ := exW_cur (h.2 rfl); exact ⟨_, hk⟩
    · exact h.elim
  · split at h
    · obtain ⟨_, _, _, hk⟩ := exW_cur (h.2 rfl); exact ⟨_, hk⟩
    · exact h.elim
  · split at h
    · exact ⟨_, h.2 rfl⟩
    · exact h.elim
  · split at h
    · exact ⟨_, h.2 rfl⟩
    · exact h.elim
  · split at h
    · exact ⟨_, h.2 rfl⟩
    · exact h.elim
  · exact vcGen_ex h
  · split at h
    · obtain ⟨q, _, h2⟩ := onPtr_out h
      split at h2
      · rw [force_eq] at h2; exact ⟨_, h2⟩
      · exact h2.elim
    · exact h.elim
  · exact vcGen_ex h
  · exact vcGen_ex h
  · exact vcGen_ex h
  · exact vcGen_ex h
  · exact h.elim
end
end Go.Proofs.Ytknohdgcigcmdaa
