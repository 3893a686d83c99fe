/-
  Package msg: the document's writer.
-/
import Derived.Test.YtodcdfelbphajaaCodeR
import Derived.Test.YtodcdfelbphajaaMsgJ
namespace Go.Proofs.Ytodcdfelbphajaa
open Go.RowKit
set_option maxRecDepth 100000

/-! plain: how much must be written -/
def sm {T : Type} (f : T → Nat) : List T → Nat
  | [] => 0
  | x :: L => f x + sm f L
theorem sm_app {T : Type} (f : T → Nat) : ∀ (L M : List T), sm f (L ++ M) = sm f L + sm f M
  | [], M => by simp [sm]
  | x :: L, M => by simp only [List.cons_append, sm, sm_app f L M]; omega
theorem sm_take {T : Type} (f : T → Nat) (L : List T) (m : Nat) (h : m < L.length) : sm f (L.take (m + 1)) = sm f (L.take m) + f L[m] := by
  rw [List.take_succ_eq_append_getElem h, sm_app]; simp [sm]
theorem sm_le {T : Type} (f : T → Nat) (L : List T) (m : Nat) : sm f (L.take m) ≤ sm f L := by
  have : sm f L = sm f (L.take m) + sm f (L.drop m) := by rw [← sm_app, List.take_append_drop]
  omega
theorem sm_flat {T : Type} (f : T → Nat) (c : T → List UInt8) : ∀ (L : List T), (∀ x ∈ L, f x + 1 ≤ (c x).length) → sm f L + L.length ≤ (L.flatMap c).length
  | [], _ => by simp [sm]
  | x :: L, h => by
    have h1 := h x (List.mem_cons_self ..)
    have h2 := sm_flat f c L fun y hy => h y (List.mem_cons_of_mem _ hy)
    rw [List.flatMap_cons, List.length_append, List.length_cons, sm]
    omega
def szH (p : MP) : Nat := p.c.f8.size + p.c.f9.size + p.c.f10.size + p.c.f15.size + p.c.f24.size + p.L.length + p.P.length + p.Q.length + p.E.length
def szP (x : Pr) : Nat := x.1.size + x.2.size
def szQ (x : Ls) : Nat := x.2.2.2.2.size
def szE (x : En) : Nat := x.2.2.1.size + x.2.2.2.length
def szT (p : MP) : Nat := szH p + sm szP p.P + sm szQ p.Q + sm szE p.E
def Near (n t : Nat) : Prop := n = t ∨ (10000 ≤ n ∧ n ≤ t)
theorem Near.end {n s t : Nat} {b : Bool} (h : Near n s) (hs : s ≤ t) (he : s = t ∨ 10000 ≤ n) : Near n t := by
  unfold Near at *
  omega
theorem Near.add {n s : Nat} (h : Near n s) (hn : n < 10000) (d : Nat) : Near (n + d) (s + d) := by
  unfold Near at *
  omega
theorem near_iff {n t : Nat} (h : Near n t) : 8192 < n ↔ 8192 < t := by
  unfold Near at h
  omega
theorem len_app {a b : List UInt8} {m n : Nat} (h1 : m ≤ a.length) (h2 : n ≤ b.length) : m + n ≤ (a ++ b).length := by
  rw [List.length_append]; omega
theorem encS_len1 (x : ByteArray) (hx : x.size ≤ 1048576) : x.size + 1 ≤ (encS x).length := by
  unfold encS
  rw [if_pos (by omega), List.length_append]
  have : x.data.toList.length = x.size := Array.length_toList
  have := enc_pos x.size
  omega
theorem cNum_len {n : Int} (h : i64ok n) : (cNum n).length ≤ 10 := enc_len10 (zz_lt h)
theorem cNum_len1 (n : Int) : 1 ≤ (cNum n).length := enc_pos _
theorem szT_le {p : MP} (h : EOk p) : szT p ≤ (encM p).length := by
  have hL := sm_flat (fun _ => 0) cNum p.L fun n _ => cNum_len1 n
  have hP := sm_flat szP cPr p.P fun x hx => by
    have h1 := encS_len1 x.1 (h.pp x hx).1
    have h2 := encS_len1 x.2 (h.pp x hx).2
    unfold szP cPr
    rw [List.length_append]; omega
  have hQ := sm_flat szQ cLs p.Q fun x hx => by
    have h1 := encS_len1 x.2.2.2.2 (h.qq x hx).2.2.2
    unfold szQ cLs cRes
    simp only [List.length_append]; omega
  have hE := sm_flat szE cEn p.E fun x hx => by
    have h1 := encS_len1 x.2.2.1 (h.e x hx).2.2.1
    have h2 := sm_flat (fun _ => 0) cNum x.2.2.2 fun n _ => cNum_len1 n
    unfold szE cEn cInts
    simp only [List.length_append]; omega
  have s8 := encS_len1 p.c.f8 (h.s8 _ (by simp))
  have s9 := encS_len1 p.c.f9 (h.s8 _ (by simp))
  have s10 := encS_len1 p.c.f10 (h.s8 _ (by simp))
  have s15 := encS_len1 p.c.f15 h.s15
  have s24 := encS_len1 p.c.f24 h.s24
  unfold encM cInts cRes szT szH
  simp only [List.length_append, List.flatMap_cons, List.flatMap_nil, List.length_nil]
  generalize (encS p.c.f8).length = a8 at *
  generalize (encS p.c.f9).length = a9 at *
  generalize (encS p.c.f10).length = a10 at *
  generalize (encS p.c.f15).length = a15 at *
  generalize (encS p.c.f24).length = a24 at *
  generalize (p.L.flatMap cNum).length = aL at *
  generalize (p.P.flatMap cPr).length = aP at *
  generalize (p.Q.flatMap cLs).length = aQ at *
  generalize (p.E.flatMap cEn).length = aE at *
  generalize sm szP p.P = bP at *
  generalize sm szQ p.Q = bQ at *
  generalize sm szE p.E = bE at *
  refine Nat.le_trans (m := a8 + a9 + a10 + a15 + aE + aL + a24 + aP + aQ) (by omega) ?_
  clear hL hP hQ hE s8 s9 s10 s15 s24
  simp only [Nat.add_assoc, Nat.zero_add, Nat.add_zero]
  generalize (encC _).length = x0
  omega

/-! its functions -/
def WrY (w : World) (s : Sl) (l c : List UInt8) (e : Ending) (w' : World) : Prop := ∃ s' : Sl, e = .returned (.slice s'.base s'.len s'.cap) ∧ Own w w' s' (l ++ c) ∧ Ext [] w w'
theorem ykind_spec (s : Sl) (l : List UInt8) (x : Int) (w : World) (h : Seg w s.base s.len 1 (bc l)) (hl : l.length ≤ 130737488355300) (hx : u8ok x) :
    Calls Try.prog 42 #[.slice s.base s.len s.cap, .int .u8 x] w (WrY w s l (encC x)) := by
  refine sh_butteryref13_kind_ok _ _ _ _ ?_
  unfold sh_butteryref13_kind
  rw [w64 (n := x) (by have := hx.1; have := hx.2; omega)]
  refine VCall.i (XCount_spec s l x w h (by omega)) ?_
  rintro e w1 ⟨s1, rfl, h1, e1⟩
  exact exW.i1 (t := .sl) s1 rfl ⟨s1, rfl, h1, e1⟩
theorem ynum_spec (s : Sl) (l : List UInt8) (x : Int) (w : World) (h : Seg w s.base s.len 1 (bc l)) (hl : l.length ≤ 130737488355300) (hx : i64ok x) :
    Calls Try.prog 43 #[.slice s.base s.len s.cap, .int .i64 x] w (WrY w s l (cNum x)) := by
  refine sh_butteryref13_num_ok _ _ _ _ ?_
  unfold sh_butteryref13_num
  refine VCall.i (XNum_spec s l x w h (by omega) hx) ?_
  rintro e w1 ⟨s1, rfl, h1, e1⟩
  exact exW.i1 (t := .sl) s1 rfl ⟨s1, rfl, h1, e1⟩

/-- what is being written -/
structure RE (w0 W : World) (mb : Nat) (cs : List Value) (ty : TypeId) (s : Sl) (F : List UInt8) (k : Nat) : Prop where
  m : Bk W mb cs ty
  own : Own w0 W s F
  len : F.length ≤ 1000000000 * k
  e : Ext [] w0 W
section
variable {w0 W : World} {mb : Nat} {cs : List Value} {ty : TypeId} {s : Sl} {F c : List UInt8} {k : Nat}
theorem RE.ext0 {W' : World} (h : RE w0 W mb cs ty s F k) (e : Ext [] W W') : RE w0 W' mb cs ty s F k := ⟨h.m.ext e, h.own.ext0 e, h.len, h.e.then0 e⟩
theorem RE.step (h : RE w0 W mb cs ty s F k) {f : FuncId} {args : Array Value} {K : Sl → World → Prop} (hs : Calls Try.prog f args W (WrY W s F c)) (hc : c.length ≤ 1000000000) (kk : ∀ s' W', RE w0 W' mb cs ty s' (F ++ c) (k + 1) → Ext [] W W' → K s' W') :
    VCall none Try.prog f args W (.slice none 0 0) fun (r : Sl) (W' : World) => K r W' := by
  refine VCall.i hs ?_
  rintro e W' ⟨s', rfl, ho, e'⟩
  have hl := h.len
  exact exW.i1 (t := .sl) s' rfl (kk s' W' ⟨h.m.ext e', ho.mono h.e.size, by rw [List.length_append]; omega, h.e.then0 e'⟩ e')
theorem RE.l (h : RE w0 W mb cs ty s F k) (hk : k ≤ 100000) : F.length ≤ 130737488355300 := by
  have := h.len
  omega
theorem RE.num {x : Int} (h : RE w0 W mb cs ty s F k) (hx : i64ok x) (hk : k ≤ 100000) {K : Sl → World → Prop} (kk : ∀ s' W', RE w0 W' mb cs ty s' (F ++ cNum x) (k + 1) → Ext [] W W' → K s' W') :
    VCall none Try.prog 43 #[.slice s.base s.len s.cap, .int .i64 x] W (.slice none 0 0) fun (r : Sl) (W' : World) => K r W' :=
  h.step (ynum_spec s F x W h.own.seg (h.l hk) hx) (Nat.le_trans (cNum_len hx) (by omega)) kk
theorem RE.kind {x : Int} (h : RE w0 W mb cs ty s F k) (hx : u8ok x) (hk : k ≤ 100000) {K : Sl → World → Prop} (kk : ∀ s' W', RE w0 W' mb cs ty s' (F ++ encC x) (k + 1) → Ext [] W W' → K s' W') :
    VCall none Try.prog 42 #[.slice s.base s.len s.cap, .int .u8 x] W (.slice none 0 0) fun (r : Sl) (W' : World) => K r W' :=
  h.step (ykind_spec s F x W h.own.seg (h.l hk) hx) (Nat.le_trans (encC_len x) (by omega)) kk
theorem RE.cnt {x : Int} (h : RE w0 W mb cs ty s F k) (hk : k ≤ 100000) {K : Sl → World → Prop} (kk : ∀ s' W', RE w0 W' mb cs ty s' (F ++ encC x) (k + 1) → Ext [] W W' → K s' W') :
    VCall none Try.prog 47 #[.slice s.base s.len s.cap, .int .i64 x] W (.slice none 0 0) fun (r : Sl) (W' : World) => K r W' :=
  h.step (XCount_spec s F x W h.own.seg (by have := h.l hk; omega)) (Nat.le_trans (encC_len x) (by omega)) kk
theorem encS_top {x : ByteArray} (hx : x.size ≤ 1048576) : (encS x).length ≤ 2000000 := by
  have hl : x.data.toList.length = x.size := Array.length_toList
  have := enc_len10 (show x.size < 18446744073709551616 by omega)
  unfold encS
  rw [if_pos (by omega), List.length_append]
  omega
theorem RE.text {x : ByteArray} (h : RE w0 W mb cs ty s F k) (hx : x.size ≤ 1048576) (hk : k ≤ 100000) {K : Sl → World → Prop} (kk : ∀ s' W', RE w0 W' mb cs ty s' (F ++ encS x) (k + 1) → Ext [] W W' → K s' W') :
    VCall none Try.prog 44 #[.slice s.base s.len s.cap, .string x] W (.slice none 0 0) fun (r : Sl) (W' : World) => K r W' :=
  h.step (XStr_spec s F x W h.own.seg (by have := h.l hk; omega) (by omega)) (Nat.le_trans (encS_top hx) (by omega)) kk
theorem RE.flag {x : Bool} (h : RE w0 W mb cs ty s F k) (hk : k ≤ 100000) {K : Sl → World → Prop} (kk : ∀ s' W', RE w0 W' mb cs ty s' (F ++ cFlag x) (k + 1) → Ext [] W W' → K s' W') :
    VCall none Try.prog 45 #[.slice s.base s.len s.cap, .bool x] W (.slice none 0 0) fun (r : Sl) (W' : World) => K r W' :=
  h.step (XFlag_spec s F x W h.own.seg (by have := h.l hk; omega)) (by have := enc_len10 (show (if x = true then 1 else 0) < 18446744073709551616 by split <;> omega); omega) kk
end
theorem RE.up {w0 W : World} {mb : Nat} {cs : List Value} {ty : TypeId} {s : Sl} {F : List UInt8} {k k' : Nat} (h : RE w0 W mb cs ty s F k) (hk : k ≤ k') : RE w0 W mb cs ty s F k' := ⟨h.m, h.own, by have := h.len; omega, h.e⟩
theorem cRes_len (x1 : Int) (x2 : Bool) {x3 : ByteArray} (h : x3.size ≤ 1048576) : (cRes x1 x2 x3).length ≤ 3000000 := by
  have z1 := encC_len x1
  have z2 := enc_len10 (show (if x2 = true then 1 else 0) < 18446744073709551616 by split <;> omega)
  have z3 := encS_top h
  unfold cRes cFlag
  simp only [List.length_append]
  omega
theorem cInts_len {L : List Int} (h : ∀ n ∈ L, i64ok n) (hn : L.length ≤ 1048576) : (cInts L).length ≤ 20000000 := by
  have z1 := encC_len (L.length : Int)
  have : ∀ M : List Int, (∀ n ∈ M, i64ok n) → (M.flatMap cNum).length ≤ 10 * M.length := by
    intro M hM
    induction M with
    | nil => simp
    | cons x M ih =>
      have h1 := cNum_len (hM x (by simp))
      have h2 := ih fun y hy => hM y (by simp [hy])
      rw [List.flatMap_cons, List.length_append, List.length_cons]
      omega
  have := this L h
  unfold cInts
  rw [List.length_append]
  omega
theorem yres_spec (s : Sl) (l : List UInt8) (x1 : Int) (x2 : Bool) (x3 : ByteArray) (w : World) (h : Seg w s.base s.len 1 (bc l)) (hl : l.length ≤ 100000000000000) (h1 : u8ok x1) (h3 : x3.size ≤ 1048576) :
    Calls Try.prog 46 #[.slice s.base s.len s.cap, .agg #[.int .u8 x1, .bool x2, .string x3]] w (WrY w s l (cRes x1 x2 x3)) := by
  refine sh_butteryref13_result_ok _ _ _ _ _ _ ?_
  unfold sh_butteryref13_result
  refine VNw.i fun b w1 hb hk e1 => ?_
  have h := h.ext0 e1
  refine VLd.i1 (t := .int .u8) x1 (Rd.of_bk hk rfl) (VCall.i (ykind_spec s l x1 w1 h (by omega) h1) ?_)
  rintro e w2 ⟨s2, rfl, o2, e2⟩
  have hk := hk.ext e2
  have z1 := encC_len x1
  refine exW.i1 (t := .sl) s2 rfl (VLd.i1 (t := .bool) x2 (Rd.of_bk hk rfl) (VCall.i (XFlag_spec s2 _ x2 w2 o2.seg (by rw [List.length_append]; omega)) ?_))
  rintro e w3 ⟨s3, rfl, o3, e3⟩
  have hk := hk.ext e3
  have z2 := enc_len10 (show (if x2 = true then 1 else 0) < 18446744073709551616 by split <;> omega)
  refine exW.i1 (t := .sl) s3 rfl (VLd.i1 (t := .str) x3 (Rd.of_bk hk rfl) (VCall.i (XStr_spec s3 _ x3 w3 o3.seg (by simp only [List.length_append]; omega) (by omega)) ?_))
  rintro e w4 ⟨s4, rfl, o4, e4⟩
  refine exW.i1 (t := .sl) s4 rfl ⟨s4, rfl, ?_, ((e1.then0 e2).then0 e3).then0 e4⟩
  have : l ++ cRes x1 x2 x3 = l ++ encC x1 ++ enc (if x2 = true then 1 else 0) ++ encS x3 := by unfold cRes cFlag; simp only [List.append_assoc]
  rw [this]
  exact o4.mono (by have := e1.size; have := e2.size; have := e3.size; omega)
theorem ynumbers_spec (s sl : Sl) (l : List UInt8) (L : List Int) (w : World) (h : Seg w s.base s.len 1 (bc l)) (hl : l.length ≤ 100000000000000) (hi : InR intR w sl L) (hL : ∀ n ∈ L, i64ok n) (hn : L.length ≤ 1048576) :
    Calls Try.prog 48 #[.slice s.base s.len s.cap, .slice sl.base sl.len sl.cap] w (WrY w s l (cInts L)) := by
  refine sh_butteryref13_numbers_ok _ _ _ _ ?_
  unfold sh_butteryref13_numbers
  have hlen := hi.len
  rw [hlen]
  refine VCall.i (XCount_spec s l (L.length : Int) w h (by omega)) ?_
  rintro e w1 ⟨s1, rfl, o1, e1⟩
  have z1 := encC_len (L.length : Int)
  refine exW.i1 (t := .sl) s1 rfl ?_
  refine ⟨fun k (b : Sl) i W => ∃ m : Nat, i = (m : Int) ∧ m ≤ L.length ∧ k = L.length - m ∧ Own w W b (l ++ encC (L.length : Int) ++ (L.take m).flatMap cNum) ∧ ((L.take m).flatMap cNum).length ≤ 10 * m ∧ Ext [] w W, ⟨_, 0, rfl, by omega, rfl, by simpa using o1, by simp, e1⟩, ?_⟩
  rintro k b i w2 ⟨m, rfl, hm, rfl, o2, z2, e2⟩
  refine VIf.mk (fun hc => ?_) (fun hc => ?_)
  · have hm' : m < L.length := by simp at hc; omega
    have hi2 := (hi.ext0 e2).1
    rw [hlen] at hi2
    refine VIx.rec (r := intR) hi2 hm' rfl fun a1 hr1 => VLd.i1 (t := .int .i64) (L[m]) hr1 ?_
    have hx := hL _ (List.getElem_mem hm')
    refine VCall.i (ynum_spec b _ (L[m]) w2 o2.seg (by simp only [List.length_append]; omega) hx) ?_
    rintro e w3 ⟨s3, rfl, o3, e3⟩
    refine exW.i1 (t := .sl) s3 rfl ?_
    rw [w64 (n := (m : Int) + 1) (by omega)]
    have z3 := cNum_len hx
    refine VSet.i ⟨_, (show L.length - (m + 1) < L.length - m by omega), m + 1, rfl, by omega, rfl, ?_, ?_, e2.then0 e3⟩
    · rw [List.take_succ_eq_append_getElem hm', List.flatMap_append, ← List.append_assoc]
      have := o3.mono e2.size
      simpa using this
    · rw [List.take_succ_eq_append_getElem hm', List.flatMap_append, List.length_append]
      simp only [List.flatMap_cons, List.flatMap_nil, List.append_nil]
      omega
  · have hmm : m = L.length := by simp at hc; omega
    subst hmm
    rw [List.take_length] at o2
    refine ⟨b, rfl, ?_, e2⟩
    unfold cInts
    rw [← List.append_assoc]
    exact o2
end Go.Proofs.Ytodcdfelbphajaa
