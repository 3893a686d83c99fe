/-
  Package dedup: the document's put and note; are two lists the same; the program's Note (printed by gen_h.py).
-/
import Derived.Test.YtlnomdjmjeabhaaDupG
namespace Go.Proofs.Ytlnomdjmjeabhaa
open Go.RowKit
set_option maxRecDepth 100000

theorem take_succ_eq {α : Type} {L M : List α} {m : Nat} (h : L.take m = M.take m) (hl : m < L.length) (hm : m < M.length) : L.take (m + 1) = M.take (m + 1) ↔ L[m] = M[m] := by
  rw [List.take_succ_eq_append_getElem hl, List.take_succ_eq_append_getElem hm, h, List.append_right_inj]
  exact ⟨fun e => (List.cons.inj e).1, fun e => by rw [e]⟩
theorem Same9_spec (a b : Sl) (L M : List Pr) (w : World) (h : InR prR w a L) (k : InR prR w b M) :
    Calls Try.prog 18 #[.slice a.base a.len a.cap, .slice b.base b.len b.cap] w fun e w' => e = .returned (.bool (decide (L = M))) ∧ Ext [] w w' := by
  refine sh_butteryref09_Same_ok _ _ _ _ ?_
  unfold sh_butteryref09_Same
  have hl := h.len
  have kl := k.len
  have hc := h.2
  refine VIf.mk (fun hne => ?_) (fun he => ?_)
  · refine ⟨?_, Ext.refl _ _⟩
    rw [decide_eq_false (fun e => by subst e; simp at hne; omega)]
  · have heq : L.length = M.length := by simp at he; omega
    refine ⟨fun k' i W => ∃ m : Nat, i = (m : Int) ∧ m ≤ L.length ∧ k' = L.length - m ∧ L.take m = M.take m ∧ Ext [] w W, ⟨_, 0, rfl, by omega, rfl, rfl, Ext.refl _ _⟩, ?_⟩
    rintro k' i w1 ⟨m, rfl, hm, rfl, ht, e1⟩
    refine VIf.mk (fun hc2 => ?_) (fun hc2 => ?_)
    · have hm' : m < L.length := by simp at hc2; omega
      have hm2 : m < M.length := by omega
      intro w2 hw2
      have e2 := e1.then0 (Ext.drew' hw2)
      refine VIx.rd2 (r := prR) (h.1.ext0 e2) hm' rfl fun a1 hr1 => VLd.i2 (t := .str) (u := .str) _ _ hr1 (VIx.rd2 (r := prR) (k.1.ext0 e2) hm2 rfl fun a2 hr2 => VLd.i2 (t := .str) (u := .str) _ _ hr2 ?_)
      rw [ba_beq, ba_beq]
      refine VIf.mk (fun hd => ⟨?_, e2⟩) (fun hd => ?_)
      · rw [decide_eq_false (fun e => by subst e; simp at hd)]
      · have hx : L[m] = M[m] := by
          simp at hd
          exact Prod.ext hd.1 hd.2
        rw [w64 (n := (m : Int) + 1) (by omega)]
        exact VSet.i ⟨_, by omega, m + 1, rfl, by omega, rfl, (take_succ_eq ht hm' hm2).2 hx, e2⟩
    · have hmm : m = L.length := by simp at hc2; omega
      subst hmm
      refine ⟨?_, e1⟩
      rw [List.take_length, heq, List.take_length] at ht
      rw [decide_eq_true ht]
theorem SameLasts_spec (a b : Sl) (L M : List Ls) (w : World) (h : InR lsR w a L) (k : InR lsR w b M) :
    Calls Try.prog 22 #[.slice a.base a.len a.cap, .slice b.base b.len b.cap] w fun e w' => e = .returned (.bool (decide (L = M))) ∧ Ext [] w w' := by
  refine sh_butteryref09_SameLasts_ok _ _ _ _ ?_
  unfold sh_butteryref09_SameLasts
  have hl := h.len
  have kl := k.len
  have hc := h.2
  refine VIf.mk (fun hne => ?_) (fun he => ?_)
  · refine ⟨?_, Ext.refl _ _⟩
    rw [decide_eq_false (fun e => by subst e; simp at hne; omega)]
  · have heq : L.length = M.length := by simp at he; omega
    refine ⟨fun k' i W => ∃ m : Nat, i = (m : Int) ∧ m ≤ L.length ∧ k' = L.length - m ∧ L.take m = M.take m ∧ Ext [] w W, ⟨_, 0, rfl, by omega, rfl, rfl, Ext.refl _ _⟩, ?_⟩
    rintro k' i w1 ⟨m, rfl, hm, rfl, ht, e1⟩
    refine VIf.mk (fun hc2 => ?_) (fun hc2 => ?_)
    · have hm' : m < L.length := by simp at hc2; omega
      have hm2 : m < M.length := by omega
      intro w2 hw2
      have e2 := e1.then0 (Ext.drew' hw2)
      refine VIx.rd2 (r := lsR) (h.1.ext0 e2) hm' rfl fun a1 hr1 => ?_
      refine ⟨((L[m]).1 : Int), ((L[m]).2.1 : Int), ((L[m]).2.2.1 : Int), ((L[m]).2.2.2.1 : Bool), ((L[m]).2.2.2.2 : ByteArray), gd.i hr1, ?_⟩
      refine VIx.rd2 (r := lsR) (k.1.ext0 e2) hm2 rfl fun a2 hr2 => ?_
      refine ⟨((M[m]).1 : Int), ((M[m]).2.1 : Int), ((M[m]).2.2.1 : Int), ((M[m]).2.2.2.1 : Bool), ((M[m]).2.2.2.2 : ByteArray), gd.i hr2, ?_⟩
      dsimp only
      rw [ba_beq]
      refine VIf.mk (fun hd => ⟨?_, e2⟩) (fun hd => ?_)
      · rw [decide_eq_false (fun e => by subst e; simp at hd)]
      · have hx : L[m] = M[m] := by
          simp at hd
          obtain ⟨h1, h2, h3, h4, h5⟩ := hd
          exact Prod.ext h1 (Prod.ext h2 (Prod.ext h3 (Prod.ext h4 h5)))
        rw [w64 (n := (m : Int) + 1) (by omega)]
        exact VSet.i ⟨_, by omega, m + 1, rfl, by omega, rfl, (take_succ_eq ht hm' hm2).2 hx, e2⟩
    · have hmm : m = L.length := by simp at hc2; omega
      subst hmm
      refine ⟨?_, e1⟩
      rw [List.take_length, heq, List.take_length] at ht
      rw [decide_eq_true ht]

section
variable {α κ : Type} [DecidableEq κ] {key : α → κ} {gt : κ → κ → Bool}
theorem foldP_succ {had : Bool} {x : α} {L : List α} {j : Nat} {s : List α × Bool} (h : j < L.length) : foldP key gt had x (L.take (j + 1)) s = stepP (key := key) (gt := gt) had x (foldP key gt had x (L.take j) s) L[j] := by
  unfold foldP
  rw [List.take_succ_eq_append_getElem h, List.foldl_append]; rfl
theorem stepP_len (had : Bool) (x y : α) (s : List α × Bool) : (stepP (key := key) (gt := gt) had x s y).1.length ≤ s.1.length + 2 := by
  unfold stepP
  split
  · simp
  · split
    · simp
    · simp
theorem foldP_len (had : Bool) (x : α) (L : List α) : ∀ j, j ≤ L.length → (foldP key gt had x (L.take j) ([], false)).1.length ≤ 2 * j
  | 0, _ => by simp [foldP]
  | j + 1, h => by
    rw [foldP_succ (by omega)]
    have h1 := stepP_len (key := key) (gt := gt) had x (L[j]'(by omega)) (foldP key gt had x (L.take j) ([], false))
    have h2 := foldP_len had x L j (by omega)
    omega
end

set_option maxHeartbeats 1000000 in
theorem xPut_spec (s : Sl) (L : List Pr) (x : Pr) (w : World) (h : InR prR w s L) (hb : L.length ≤ 10000000) : Calls Try.prog 35 #[.slice s.base s.len s.cap, .agg #[.string x.1, .string x.2]] w fun e w' => ∃ s' : Sl, e = .returned (.slice s'.base s'.len s'.cap) ∧ OwnR prR 36 w w' s' (putP L x) ∧ Ext [] w w' := by
  refine sh_butteryref09_Put_ok _ _ _ _ _ ?_
  unfold sh_butteryref09_Put
  have hl := h.len
  refine VNw.i fun pb w1 hpb hp1 e1 => VLd.i1 (t := .str) (prK x) (Rd.of_bk hp1 rfl) ?_
  refine VCall.i (xFind_spec s L (prK x) w1 (h.ext0 e1)) ?_
  rintro e w2 ⟨rfl, hw2⟩
  obtain rfl : w1 = w2 := hw2.symm
  refine ⟨valP L (prK x), hasP L (prK x), rfl, ?_⟩
  obtain ⟨had, hhad⟩ : ∃ had, had = hasP L (prK x) := ⟨_, rfl⟩
  rw [← hhad]
  have hst : ∀ j, j = L.length → (if (foldP prK gtB had x (L.take j) ([], false)).2 then (foldP prK gtB had x (L.take j) ([], false)).1 else (foldP prK gtB had x (L.take j) ([], false)).1 ++ [x]) = putP L x := fun j hj => by
    subst hj
    rw [List.take_length, hhad]
    exact foldP_put x L
  have z1 := hp1.lt
  have hp2 := hp1
  have e2 : Ext [] w1 w1 := Ext.refl _ _
  refine ⟨fun kk out done i W => ∃ j : Nat, i = (j : Int) ∧ j ≤ L.length ∧ kk = L.length - j ∧ done = (foldP prK gtB had x (L.take j) ([], false)).2 ∧ OwnR prR 36 w1 W out (foldP prK gtB had x (L.take j) ([], false)).1 ∧ Bk W pb [.string x.1, .string x.2] 36 ∧ Ext [] w1 W, ⟨_, 0, rfl, by omega, rfl, rfl, OwnR.nil _ _ _ _, hp2, e2⟩, ?_⟩
  rintro kk out done i w3 ⟨j, rfl, hj, rfl, rfl, ho, hp3, e3⟩
  have hlen := foldP_len (key := prK) (gt := gtB) had x L j hj
  have hfin := hst j
  generalize hst0 : foldP prK gtB had x (L.take j) ([], false) = st at *
  obtain ⟨o, d⟩ := st
  simp only at ho hlen
  refine VIf.mk (fun hc => ?_) (fun hc => ?_)
  · have hj' : j < L.length := by simp at hc; omega
    have hstep : foldP prK gtB had x (L.take (j + 1)) ([], false) = stepP (key := prK) (gt := gtB) had x (o, d) L[j] := by rw [foldP_succ hj', hst0]
    refine ⟨fun out' done' W => done' = (stepP (key := prK) (gt := gtB) had x (o, d) L[j]).2 ∧ OwnR prR 36 w1 W out' (stepP (key := prK) (gt := gtB) had x (o, d) L[j]).1 ∧ Bk W pb [.string x.1, .string x.2] 36 ∧ Ext [] w1 W, ?_, ?_⟩
    · intro w4 hw4
      have e4 := Ext.drew' hw4
      have e04 := e3.then0 e4
      have hp4 := hp3.ext e4
      have ho4 := ho.ext0 e4
      refine VIx.rd2 (r := prR) (h.ext0 (e1.then0 e04)).1 hj' rfl fun a hr => VLd.i1 (t := .str) (prK L[j]) (hr.fld0 rfl) (VLd.i1 (t := .str) (prK x) (Rd.of_bk hp4 rfl) (VIf.mk (fun hq => ?_) (fun hq => ?_)))
      · rw [ba_beq] at hq
        have hs : stepP (key := prK) (gt := gtB) had x (o, d) L[j] = (o ++ [x], true) := by unfold stepP; simp only; rw [if_pos hq]
        rw [hs]
        refine ⟨x.1, x.2, gd.i (Rd.of_bk hp4 rfl), VNw.i fun b w5 hb hb5 e5 => ?_⟩
        refine VApp.rec (r := prR) (m := 1) (news := [x]) (ho4.ext0 e5) (e04.then0 e5) (Seg.of_bk hb5 (by rw [Rec.cells_one]; rfl) (by rw [Rec.cells_one, Rec.len]; rfl)) rfl rfl (by omega) (by omega) fun s' w6 ho6 e06 e6 hb6 => ?_
        exact ⟨rfl, ho6, (hp4.ext e5).ext e6 (fun hm => by have := ho4.2 pb hm; omega), e06⟩
      · rw [ba_beq] at hq
        refine ⟨fun out2 d2 W => d2 = (if (!d && !had && gtB (prK L[j]) (prK x)) then true else d) ∧ OwnR prR 36 w1 W out2 (if (!d && !had && gtB (prK L[j]) (prK x)) then o ++ [x] else o) ∧ Bk W pb [.string x.1, .string x.2] 36 ∧ Ext [] w1 W, ?_, ?_⟩
        · intro w7 hw7
          have e7 := Ext.drew' hw7
          have e07 := e04.then0 e7
          have hp7 := hp4.ext e7
          have ho7 := ho4.ext0 e7
          refine VIx.rd2 (r := prR) (h.ext0 (e1.then0 e07)).1 hj' rfl fun a hr => VLd.i1 (t := .str) (prK L[j]) (hr.fld0 rfl) (VLd.i1 (t := .str) (prK x) (Rd.of_bk hp7 rfl) (VIf.mk (fun hg => ?_) (fun hg => ?_)))
          · have hg : (!d && !had && gtB (prK L[j]) (prK x)) = true := by rw [gt_str] at hg; exact hg
            rw [if_pos hg, if_pos hg]
            refine ⟨x.1, x.2, gd.i (Rd.of_bk hp7 rfl), VNw.i fun b w8 hb hb8 e8 => ?_⟩
            refine VApp.rec (r := prR) (m := 1) (news := [x]) (ho7.ext0 e8) (e07.then0 e8) (Seg.of_bk hb8 (by rw [Rec.cells_one]; rfl) (by rw [Rec.cells_one, Rec.len]; rfl)) rfl rfl (by omega) (by omega) fun s' w9 ho9 e09 e9 hb9 => ?_
            exact ⟨rfl, ho9, (hp7.ext e8).ext e9 (fun hm => by have := ho7.2 pb hm; omega), e09⟩
          · have hg : ¬ (!d && !had && gtB (prK L[j]) (prK x)) = true := by rw [gt_str] at hg; rw [hg]; simp
            rw [if_neg hg, if_neg hg]
            exact ⟨rfl, ho7, hp7, e07⟩
        · rintro out2 d2 w10 ⟨rfl, ho10, hp10, e10⟩
          have hl2 : (if (!d && !had && gtB (prK L[j]) (prK x)) then o ++ [x] else o).length ≤ 2 * j + 1 := by
            split
            · rw [List.length_append]; show o.length + 1 ≤ _; omega
            · omega
          refine VIx.rd2 (r := prR) (h.ext0 (e1.then0 e10)).1 hj' rfl fun a hr => ⟨(L[j]).1, (L[j]).2, gd.i hr, VNw.i fun b w11 hb hb11 e11 => ?_⟩
          refine VApp.rec (r := prR) (m := 1) (news := [L[j]]) (ho10.ext0 e11) (e10.then0 e11) (Seg.of_bk hb11 (by rw [Rec.cells_one]; rfl) (by rw [Rec.cells_one, Rec.len]; rfl)) rfl rfl (by omega) (by omega) fun s' w12 ho12 e12 e12' hb12 => ?_
          have hq2 : ¬ (!d && had && decide (prK L[j] = prK x)) = true := by rw [hq]; simp
          by_cases hg : (!d && !had && gtB (prK L[j]) (prK x)) = true
          · have hs : stepP (key := prK) (gt := gtB) had x (o, d) L[j] = (o ++ [x] ++ [L[j]], true) := by unfold stepP; simp only; rw [if_neg hq2, if_pos hg]
            rw [hs, if_pos hg]
            rw [if_pos hg] at ho12
            exact ⟨rfl, ho12, (hp10.ext e11).ext e12' (fun hm => by have := ho10.2 pb hm; omega), e12⟩
          · have hs : stepP (key := prK) (gt := gtB) had x (o, d) L[j] = (o ++ [L[j]], d) := by unfold stepP; simp only; rw [if_neg hq2, if_neg hg]
            rw [hs, if_neg hg]
            rw [if_neg hg] at ho12
            exact ⟨rfl, ho12, (hp10.ext e11).ext e12' (fun hm => by have := ho10.2 pb hm; omega), e12⟩
    · rintro out' done' w13 ⟨rfl, ho13, hp13, e13⟩
      refine VSet.i ⟨_, (show L.length - (j + 1) < L.length - j by omega), j + 1, w64 (n := (j : Int) + 1) (by omega), by omega, rfl, by rw [hstep], by rw [hstep]; exact ho13, hp13, e13⟩
  · have hjj : j = L.length := by simp at hc; omega
    have hput := hfin hjj
    refine ⟨fun out' W => OwnR prR 36 w1 W out' (if d then o else o ++ [x]) ∧ Ext [] w1 W, ?_, ?_⟩
    · refine VIf.mk (fun hd => ?_) (fun hd => ?_)
      · have hd : d = false := by simpa using hd
        subst hd
        refine ⟨x.1, x.2, gd.i (Rd.of_bk hp3 rfl), VNw.i fun b w14 hb hb14 e14 => ?_⟩
        refine VApp.rec (r := prR) (m := 1) (news := [x]) (ho.ext0 e14) (e3.then0 e14) (Seg.of_bk hb14 (by rw [Rec.cells_one]; rfl) (by rw [Rec.cells_one, Rec.len]; rfl)) rfl rfl (by omega) (by omega) fun s' w15 ho15 e15 _ _ => ?_
        exact ⟨ho15, e15⟩
      · have hd : d = true := by simpa using hd
        subst hd
        exact ⟨ho, e3⟩
    · rintro out' w16 ⟨ho16, e16⟩
      refine ⟨out', rfl, ?_, e1.then0 e16⟩
      rw [← hput]
      exact ho16.mono e1.size

set_option maxHeartbeats 1000000 in
theorem xNote_spec (s : Sl) (L : List Ls) (x : Ls) (w : World) (h : InR lsR w s L) (hb : L.length ≤ 10000000) : Calls Try.prog 23 #[.slice s.base s.len s.cap, .agg #[.int .i64 x.1, .int .i64 x.2.1, .int .u8 x.2.2.1, .bool x.2.2.2.1, .string x.2.2.2.2]] w fun e w' => ∃ s' : Sl, e = .returned (.slice s'.base s'.len s'.cap) ∧ OwnR lsR 42 w w' s' (putN L x) ∧ Ext [] w w' := by
  refine sh_butteryref09_Note_ok _ _ _ _ _ _ _ _ ?_
  unfold sh_butteryref09_Note
  have hl := h.len
  refine VNw.i fun pb w1 hpb hp1 e1 => ?_
  have z1 := hp1.lt
  refine ⟨fun kk had i W => ∃ j : Nat, i = (j : Int) ∧ j ≤ L.length ∧ kk = L.length - j ∧ had = (L.take j).any (fun y => decide (lsK y = lsK x)) ∧ Bk W pb [.int .i64 x.1, .int .i64 x.2.1, .int .u8 x.2.2.1, .bool x.2.2.2.1, .string x.2.2.2.2] 42 ∧ Ext [] w1 W, ⟨_, 0, rfl, by omega, rfl, rfl, hp1, Ext.refl _ _⟩, ?_⟩
  rintro kk had i w2 ⟨j0, rfl, hj0, rfl, hhad0, hp2, e2⟩
  refine VIf.mk (fun hc0 => ?_) (fun hc0 => ?_)
  · have hj' : j0 < L.length := by simp at hc0; omega
    intro w3 hw3
    have e3 := Ext.drew' hw3
    have e03 := e2.then0 e3
    have hp3 := hp2.ext e3
    refine VIx.rd2 (r := lsR) (h.ext0 (e1.then0 e03)).1 hj' rfl fun a hr => VLd.i1 (t := .int .i64) (lsK L[j0]) (hr.fld0 rfl) (VLd.i1 (t := .int .i64) (lsK x) (Rd.of_bk hp3 rfl) ?_)
    refine VSet.i ⟨_, (show L.length - (j0 + 1) < L.length - j0 by omega), j0 + 1, w64 (n := (j0 : Int) + 1) (by omega), by omega, rfl, ?_, hp3, e03⟩
    rw [List.take_succ_eq_append_getElem hj', List.any_append, hhad0, int_beq]; simp
  have hj00 : j0 = L.length := by simp at hc0; omega
  have hhad : had = (fst1 lsK L (lsK x)).isSome := by
    rw [hhad0, hj00, List.take_length]
    unfold fst1
    rw [Bool.eq_iff_iff, List.find?_isSome, List.any_eq_true]
  have hst : ∀ j, j = L.length → (if (foldP lsK gtI had x (L.take j) ([], false)).2 then (foldP lsK gtI had x (L.take j) ([], false)).1 else (foldP lsK gtI had x (L.take j) ([], false)).1 ++ [x]) = putN L x := fun j hj => by
    subst hj
    rw [List.take_length, hhad]
    exact foldP_put x L
  refine ⟨fun kk out done i W => ∃ j : Nat, i = (j : Int) ∧ j ≤ L.length ∧ kk = L.length - j ∧ done = (foldP lsK gtI had x (L.take j) ([], false)).2 ∧ OwnR lsR 42 w1 W out (foldP lsK gtI had x (L.take j) ([], false)).1 ∧ Bk W pb [.int .i64 x.1, .int .i64 x.2.1, .int .u8 x.2.2.1, .bool x.2.2.2.1, .string x.2.2.2.2] 42 ∧ Ext [] w1 W, ⟨_, 0, rfl, by omega, rfl, rfl, OwnR.nil _ _ _ _, hp2, e2⟩, ?_⟩
  rintro kk out done i w3 ⟨j, rfl, hj, rfl, rfl, ho, hp3, e3⟩
  have hlen := foldP_len (key := lsK) (gt := gtI) had x L j hj
  have hfin := hst j
  generalize hst0 : foldP lsK gtI had x (L.take j) ([], false) = st at *
  obtain ⟨o, d⟩ := st
  simp only at ho hlen
  refine VIf.mk (fun hc => ?_) (fun hc => ?_)
  · have hj' : j < L.length := by simp at hc; omega
    have hstep : foldP lsK gtI had x (L.take (j + 1)) ([], false) = stepP (key := lsK) (gt := gtI) had x (o, d) L[j] := by rw [foldP_succ hj', hst0]
    refine ⟨fun out' done' W => done' = (stepP (key := lsK) (gt := gtI) had x (o, d) L[j]).2 ∧ OwnR lsR 42 w1 W out' (stepP (key := lsK) (gt := gtI) had x (o, d) L[j]).1 ∧ Bk W pb [.int .i64 x.1, .int .i64 x.2.1, .int .u8 x.2.2.1, .bool x.2.2.2.1, .string x.2.2.2.2] 42 ∧ Ext [] w1 W, ?_, ?_⟩
    · intro w4 hw4
      have e4 := Ext.drew' hw4
      have e04 := e3.then0 e4
      have hp4 := hp3.ext e4
      have ho4 := ho.ext0 e4
      refine VIx.rd2 (r := lsR) (h.ext0 (e1.then0 e04)).1 hj' rfl fun a hr => VLd.i1 (t := (.int .i64)) (lsK L[j]) (hr.fld0 rfl) (VLd.i1 (t := (.int .i64)) (lsK x) (Rd.of_bk hp4 rfl) (VIf.mk (fun hq => ?_) (fun hq => ?_)))
      · rw [int_beq] at hq
        have hs : stepP (key := lsK) (gt := gtI) had x (o, d) L[j] = (o ++ [x], true) := by unfold stepP; simp only; rw [if_pos hq]
        rw [hs]
        refine ⟨x.1, x.2.1, x.2.2.1, x.2.2.2.1, x.2.2.2.2, gd.i (Rd.of_bk hp4 rfl), VNw.i fun b w5 hb hb5 e5 => ?_⟩
        refine VApp.rec (r := lsR) (m := 1) (news := [x]) (ho4.ext0 e5) (e04.then0 e5) (Seg.of_bk hb5 (by rw [Rec.cells_one]; rfl) (by rw [Rec.cells_one, Rec.len]; rfl)) rfl rfl (by omega) (by omega) fun s' w6 ho6 e06 e6 hb6 => ?_
        exact ⟨rfl, ho6, (hp4.ext e5).ext e6 (fun hm => by have := ho4.2 pb hm; omega), e06⟩
      · rw [int_beq] at hq
        refine ⟨fun out2 d2 W => d2 = (if (!d && !had && gtI (lsK L[j]) (lsK x)) then true else d) ∧ OwnR lsR 42 w1 W out2 (if (!d && !had && gtI (lsK L[j]) (lsK x)) then o ++ [x] else o) ∧ Bk W pb [.int .i64 x.1, .int .i64 x.2.1, .int .u8 x.2.2.1, .bool x.2.2.2.1, .string x.2.2.2.2] 42 ∧ Ext [] w1 W, ?_, ?_⟩
        · intro w7 hw7
          have e7 := Ext.drew' hw7
          have e07 := e04.then0 e7
          have hp7 := hp4.ext e7
          have ho7 := ho4.ext0 e7
          refine VIx.rd2 (r := lsR) (h.ext0 (e1.then0 e07)).1 hj' rfl fun a hr => VLd.i1 (t := (.int .i64)) (lsK L[j]) (hr.fld0 rfl) (VLd.i1 (t := (.int .i64)) (lsK x) (Rd.of_bk hp7 rfl) (VIf.mk (fun hg => ?_) (fun hg => ?_)))
          · have hg : (!d && !had && gtI (lsK L[j]) (lsK x)) = true := by exact hg
            rw [if_pos hg, if_pos hg]
            refine ⟨x.1, x.2.1, x.2.2.1, x.2.2.2.1, x.2.2.2.2, gd.i (Rd.of_bk hp7 rfl), VNw.i fun b w8 hb hb8 e8 => ?_⟩
            refine VApp.rec (r := lsR) (m := 1) (news := [x]) (ho7.ext0 e8) (e07.then0 e8) (Seg.of_bk hb8 (by rw [Rec.cells_one]; rfl) (by rw [Rec.cells_one, Rec.len]; rfl)) rfl rfl (by omega) (by omega) fun s' w9 ho9 e09 e9 hb9 => ?_
            exact ⟨rfl, ho9, (hp7.ext e8).ext e9 (fun hm => by have := ho7.2 pb hm; omega), e09⟩
          · have hg : ¬ (!d && !had && gtI (lsK L[j]) (lsK x)) = true := by intro h2; have h3 := hg.symm.trans h2; cases h3
            rw [if_neg hg, if_neg hg]
            exact ⟨rfl, ho7, hp7, e07⟩
        · rintro out2 d2 w10 ⟨rfl, ho10, hp10, e10⟩
          have hl2 : (if (!d && !had && gtI (lsK L[j]) (lsK x)) then o ++ [x] else o).length ≤ 2 * j + 1 := by
            split
            · rw [List.length_append]; show o.length + 1 ≤ _; omega
            · omega
          refine VIx.rd2 (r := lsR) (h.ext0 (e1.then0 e10)).1 hj' rfl fun a hr => ⟨(L[j]).1, (L[j]).2.1, (L[j]).2.2.1, (L[j]).2.2.2.1, (L[j]).2.2.2.2, gd.i hr, VNw.i fun b w11 hb hb11 e11 => ?_⟩
          refine VApp.rec (r := lsR) (m := 1) (news := [L[j]]) (ho10.ext0 e11) (e10.then0 e11) (Seg.of_bk hb11 (by rw [Rec.cells_one]; rfl) (by rw [Rec.cells_one, Rec.len]; rfl)) rfl rfl (by omega) (by omega) fun s' w12 ho12 e12 e12' hb12 => ?_
          have hq2 : ¬ (!d && had && decide (lsK L[j] = lsK x)) = true := by rw [hq]; simp
          by_cases hg : (!d && !had && gtI (lsK L[j]) (lsK x)) = true
          · have hs : stepP (key := lsK) (gt := gtI) had x (o, d) L[j] = (o ++ [x] ++ [L[j]], true) := by unfold stepP; simp only; rw [if_neg hq2, if_pos hg]
            rw [hs, if_pos hg]
            rw [if_pos hg] at ho12
            exact ⟨rfl, ho12, (hp10.ext e11).ext e12' (fun hm => by have := ho10.2 pb hm; omega), e12⟩
          · have hs : stepP (key := lsK) (gt := gtI) had x (o, d) L[j] = (o ++ [L[j]], d) := by unfold stepP; simp only; rw [if_neg hq2, if_neg hg]
            rw [hs, if_neg hg]
            rw [if_neg hg] at ho12
            exact ⟨rfl, ho12, (hp10.ext e11).ext e12' (fun hm => by have := ho10.2 pb hm; omega), e12⟩
    · rintro out' done' w13 ⟨rfl, ho13, hp13, e13⟩
      refine VSet.i ⟨_, (show L.length - (j + 1) < L.length - j by omega), j + 1, w64 (n := (j : Int) + 1) (by omega), by omega, rfl, by rw [hstep], by rw [hstep]; exact ho13, hp13, e13⟩
  · have hjj : j = L.length := by simp at hc; omega
    have hput := hfin hjj
    refine ⟨fun out' W => OwnR lsR 42 w1 W out' (if d then o else o ++ [x]) ∧ Ext [] w1 W, ?_, ?_⟩
    · refine VIf.mk (fun hd => ?_) (fun hd => ?_)
      · have hd : d = false := by simpa using hd
        subst hd
        refine ⟨x.1, x.2.1, x.2.2.1, x.2.2.2.1, x.2.2.2.2, gd.i (Rd.of_bk hp3 rfl), VNw.i fun b w14 hb hb14 e14 => ?_⟩
        refine VApp.rec (r := lsR) (m := 1) (news := [x]) (ho.ext0 e14) (e3.then0 e14) (Seg.of_bk hb14 (by rw [Rec.cells_one]; rfl) (by rw [Rec.cells_one, Rec.len]; rfl)) rfl rfl (by omega) (by omega) fun s' w15 ho15 e15 _ _ => ?_
        exact ⟨ho15, e15⟩
      · have hd : d = true := by simpa using hd
        subst hd
        exact ⟨ho, e3⟩
    · rintro out' w16 ⟨ho16, e16⟩
      refine ⟨out', rfl, ?_, e1.then0 e16⟩
      rw [← hput]
      exact ho16.mono e1.size

theorem Note_spec (s : Sl) (L : List Ls) (x : Ls) (w : World) (h : InR lsR w s L) (hb : L.length ≤ 10000000) : Calls Try.prog 21 #[.slice s.base s.len s.cap, .agg #[.int .i64 x.1, .int .i64 x.2.1, .int .u8 x.2.2.1, .bool x.2.2.2.1, .string x.2.2.2.2]] w fun e w' => ∃ s' : Sl, e = .returned (.slice s'.base s'.len s'.cap) ∧ OwnR lsR 42 w w' s' (putN L x) ∧ Ext [] w w' := by
  refine sh_dedup_Note_ok _ _ _ _ _ _ _ _ ?_
  unfold sh_dedup_Note
  refine VNw.i fun pb w1 hpb hp1 e1 => ⟨x.1, x.2.1, x.2.2.1, x.2.2.2.1, x.2.2.2.2, gd.i (Rd.of_bk hp1 rfl), ?_⟩
  refine VCall.i (putL_spec s L x w1 (h.ext0 e1) (by omega)) ?_
  rintro e w2 ⟨s', rfl, ho, e2⟩
  exact ⟨s', rfl, s', rfl, ho.mono e1.size, e1.then0 e2⟩

end Go.Proofs.Ytlnomdjmjeabhaa
