/-
  Package msg: the writer.
-/
import Derived.Test.YtodcdfelbphajaaCodeA
import Derived.Test.YtodcdfelbphajaaMsgB
namespace Go.Proofs.Ytodcdfelbphajaa
open Go.RowKit
set_option maxRecDepth 100000

/-! plain: the bytes of each thing -/
def cNum (n : Int) : List UInt8 := enc (zz n)
def cFlag (v : Bool) : List UInt8 := enc (if v then 1 else 0)
/-- a text's bytes (more than any message may have, if the text is so long that it isn't written) -/
def encT (x : ByteArray) : List UInt8 := if x.size ≤ 2147483647 then encS x else x.data.toList
theorem encT_eq {x : ByteArray} (h : x.size ≤ 2147483647) : encT x = encS x := by unfold encT; rw [if_pos h]
theorem encT_len (x : ByteArray) : x.size ≤ (encT x).length := by
  have hl : x.data.toList.length = x.size := Array.length_toList
  unfold encT
  split
  · rename_i h
    unfold encS
    rw [if_pos h, List.length_append]
    omega
  · omega
def cRes (k : Int) (f : Bool) (v : ByteArray) : List UInt8 := encC k ++ cFlag f ++ encT v
def cInts (L : List Int) : List UInt8 := encC (L.length : Int) ++ L.flatMap cNum
def cEn (x : En) : List UInt8 := cNum x.1 ++ encC x.2.1 ++ encT x.2.2.1 ++ cInts x.2.2.2
def cPr (x : Pr) : List UInt8 := encT x.1 ++ encT x.2
def cLs (x : Ls) : List UInt8 := cNum x.1 ++ cNum x.2.1 ++ cRes x.2.2.1 x.2.2.2.1 x.2.2.2.2
def i64ok (n : Int) : Prop := -9223372036854775808 ≤ n ∧ n ≤ 9223372036854775807
def u8ok (n : Int) : Prop := 0 ≤ n ∧ n ≤ 255

/-- a writer, all of whose bytes would be F -/
structure WrI (w0 w : World) (q : Nat) (F : List UInt8) (s : Sl) (l : List UInt8) (past : Bool) : Prop where
  bk : Bk w q [.slice s.base s.len s.cap, .bool past] 66
  own : Own w0 w s l
  n1 : past = false → l = F ∧ F.length ≤ 8192
  n2 : past = true → 8192 < F.length
  ge : w0.heap.size ≤ q
  e : Ext [] w0 w
def Wr8 (w0 w : World) (q : Nat) (F : List UInt8) : Prop := ∃ s l past, WrI w0 w q F s l past
theorem WrI.ext0 {w0 w w' : World} {q : Nat} {F l : List UInt8} {s : Sl} {past : Bool} (h : WrI w0 w q F s l past) (e : Ext [] w w') : WrI w0 w' q F s l past := ⟨h.bk.ext e, h.own.ext0 e, h.n1, h.n2, h.ge, h.e.then0 e⟩
theorem Wr8.ext0 {w0 w w' : World} {q : Nat} {F : List UInt8} (h : Wr8 w0 w q F) (e : Ext [] w w') : Wr8 w0 w' q F := by
  obtain ⟨s, l, past, h⟩ := h
  exact ⟨s, l, past, h.ext0 e⟩
theorem Wr8.lt {w0 w : World} {q : Nat} {F : List UInt8} (h : Wr8 w0 w q F) : q < w.heap.size := by
  obtain ⟨s, l, past, h⟩ := h
  exact h.bk.lt
theorem Wr8.e {w0 w : World} {q : Nat} {F : List UInt8} (h : Wr8 w0 w q F) : Ext [] w0 w := by
  obtain ⟨s, l, past, h⟩ := h
  exact h.e
theorem WrI.more {w0 w : World} {q : Nat} {F l : List UInt8} {s : Sl} (h : WrI w0 w q F s l true) (x : List UInt8) : Wr8 w0 w q (F ++ x) :=
  ⟨s, l, true, h.bk, h.own, fun h => (by cases h), fun _ => by have := h.n2 rfl; rw [List.length_append]; omega, h.ge, h.e⟩
theorem Own.noQ {w0 w : World} {s : Sl} {l : List UInt8} {q : Nat} {cs : List Value} {t : TypeId} (h : Own w0 w s l) (k : Bk w q cs t) (hne : 5 ≠ t) : ∀ b ∈ rowB s, b ∉ [q] := fun b hb hq => by
  simp at hq; subst hq
  obtain ⟨_, hz⟩ := h.1.bk_of hb
  exact hz.neT k hne rfl
/-- what a writer's step asks -/
def Step (w0 w : World) (q : Nat) (F c : List UInt8) (e : Ending) (w' : World) : Prop := e = .returned (.tuple #[]) ∧ Wr8 w0 w' q (F ++ c) ∧ Ext [q] w w'
theorem add_spec (w0 w : World) (q : Nat) (F c : List UInt8) (put : Value) (h : Wr8 w0 w q F)
    (hput : ∀ (s : Sl) (l : List UInt8) (K : Sl → World → Prop), Seg w s.base s.len 1 (bc l) → l.length ≤ 8192 → (∀ s' w', Own w w' s' (l ++ c) → Ext [] w w' → K s' w') → VDyn none Try.prog put #[.slice s.base s.len s.cap] w (.slice none 0 0) K) :
    Calls Try.prog 73 #[.pointer (some ⟨q, 0, none⟩), put] w (Step w0 w q F c) := by
  refine sh_msg_writer_add_ok _ _ _ _ ?_
  unfold sh_msg_writer_add
  obtain ⟨s, l, past, h⟩ := h
  have hrd := Rd.of_bk (i := 0) (vs := [.slice s.base s.len s.cap, .bool past]) h.bk rfl
  refine VNN.i (VLd.i1 (t := .bool) past (hrd.fld 1 rfl) (VIf.mk (fun hp => ?_) (fun hp => ?_)))
  · have hp : past = true := hp
    subst hp
    exact ⟨rfl, h.more c, (Ext.refl _ _)⟩
  · have hp : past = false := hp
    obtain ⟨rfl, h8⟩ := h.n1 hp
    refine VNN.i (VLd.s s (hrd.fld0 rfl) (hput s l _ h.own.seg h8 fun s' w1 ho e1 => ?_))
    have hk1 := h.bk.ext e1
    refine VNN.i (VSt.bk hk1 rfl (by simp) fun w2 hk2 e2 => ?_)
    have hk2 : Bk w2 q [.slice s'.base s'.len s'.cap, .bool past] 66 := hk2
    refine VNN.i (VLd.s s' (Rd.of_bk hk2 rfl) (VNN.i ?_))
    simp only [add_blk]
    refine VSt.bk hk2 rfl (by simp) fun w3 hk3 e3 => ?_
    have e13 : Ext [q] w1 w3 := e2.then e3 (fun i hi _ => hi)
    have hl := ho.len
    have hge := h.ge
    refine ⟨rfl, ⟨s', l ++ c, _, hk3, ?_, fun hx => ⟨rfl, ?_⟩, fun hx => ?_, h.ge, (h.e.then0 e1).then e13 (fun i hi hlt => by simp at hi; omega)⟩, (e1.mono (N := [q]) (by simp)).then e13 (fun i hi _ => hi)⟩
    · have := (ho.mono h.e.size).1.ext e13 (ho.noQ hk1 (by decide))
      exact ⟨this, (ho.mono h.e.size).2⟩
    · have := of_decide_eq_false hx
      omega
    · have := of_decide_eq_true hx
      omega
theorem kind_spec (w0 w : World) (q : Nat) (F : List UInt8) (x : Int) (h : Wr8 w0 w q F) (hx : u8ok x) :
    Calls Try.prog 29 #[.pointer (some ⟨q, 0, none⟩), .int .u8 x] w (Step w0 w q F (encC x)) := by
  refine sh_msg_writer_kind_ok _ _ _ _ ?_
  unfold sh_msg_writer_kind
  refine VNw.i fun b w1 hb hk e1 => ?_
  have hq := h.lt
  have h1 := h.ext0 e1
  refine VCall.i (add_spec w0 w1 q F (encC x) _ h1 fun s l K hs hl k => ?_) ?_
  · refine VDyn.i (by kernel_rfl) (VCall.i (R0 := fun e w' => ∃ s' : Sl, e = .returned (.slice s'.base s'.len s'.cap) ∧ Own w1 w' s' (l ++ encC x) ∧ Ext [] w1 w') ?_ ?_)
    · refine sh_msg_writer_kind_1_ok _ _ _ _ ?_
      unfold sh_msg_writer_kind_1
      refine VLd.i1 (t := .int .u8) x (Rd.of_bk hk rfl) ?_
      rw [w64 (n := x) (by have := hx.1; have := hx.2; omega)]
      refine VCall.i (Count_spec s l x w1 hs (by omega)) ?_
      rintro e w2 ⟨s', rfl, ho, e2⟩
      exact exW.i1 (t := .sl) s' rfl ⟨s', rfl, ho, e2⟩
    · rintro e w2 ⟨s', rfl, ho, e2⟩
      exact exW.i1 (t := .sl) s' rfl (k s' w2 ho e2)
  · rintro e w2 ⟨rfl, h2, e2⟩
    exact exW.i0 rfl ⟨rfl, h2, (e1.mono (N := [q]) (by simp)).then e2 (fun i hi _ => hi)⟩
theorem num_spec (w0 w : World) (q : Nat) (F : List UInt8) (x : Int) (h : Wr8 w0 w q F) (hx : i64ok x) :
    Calls Try.prog 30 #[.pointer (some ⟨q, 0, none⟩), .int .i64 x] w (Step w0 w q F (cNum x)) := by
  refine sh_msg_writer_num_ok _ _ _ _ ?_
  unfold sh_msg_writer_num
  refine VNw.i fun b w1 hb hk e1 => ?_
  have hq := h.lt
  have h1 := h.ext0 e1
  refine VCall.i (add_spec w0 w1 q F (cNum x) _ h1 fun s l K hs hl k => ?_) ?_
  · refine VDyn.i (by kernel_rfl) (VCall.i (R0 := fun e w' => ∃ s' : Sl, e = .returned (.slice s'.base s'.len s'.cap) ∧ Own w1 w' s' (l ++ cNum x) ∧ Ext [] w1 w') ?_ ?_)
    · refine sh_msg_writer_num_1_ok _ _ _ _ ?_
      unfold sh_msg_writer_num_1
      refine VLd.i1 (t := .int .i64) x (Rd.of_bk hk rfl) ?_
      refine VCall.i (Num_spec s l x w1 hs (by omega) hx) ?_
      rintro e w2 ⟨s', rfl, ho, e2⟩
      exact exW.i1 (t := .sl) s' rfl ⟨s', rfl, ho, e2⟩
    · rintro e w2 ⟨s', rfl, ho, e2⟩
      exact exW.i1 (t := .sl) s' rfl (k s' w2 ho e2)
  · rintro e w2 ⟨rfl, h2, e2⟩
    exact exW.i0 rfl ⟨rfl, h2, (e1.mono (N := [q]) (by simp)).then e2 (fun i hi _ => hi)⟩
theorem flag_spec (w0 w : World) (q : Nat) (F : List UInt8) (x : Bool) (h : Wr8 w0 w q F) :
    Calls Try.prog 32 #[.pointer (some ⟨q, 0, none⟩), .bool x] w (Step w0 w q F (cFlag x)) := by
  refine sh_msg_writer_flag_ok _ _ _ _ ?_
  unfold sh_msg_writer_flag
  refine VNw.i fun b w1 hb hk e1 => ?_
  have hq := h.lt
  have h1 := h.ext0 e1
  refine VCall.i (add_spec w0 w1 q F (cFlag x) _ h1 fun s l K hs hl k => ?_) ?_
  · refine VDyn.i (by kernel_rfl) (VCall.i (R0 := fun e w' => ∃ s' : Sl, e = .returned (.slice s'.base s'.len s'.cap) ∧ Own w1 w' s' (l ++ cFlag x) ∧ Ext [] w1 w') ?_ ?_)
    · refine sh_msg_writer_flag_1_ok _ _ _ _ ?_
      unfold sh_msg_writer_flag_1
      refine VLd.i1 (t := .bool) x (Rd.of_bk hk rfl) ?_
      refine VCall.i (Flag_spec s l x w1 hs (by omega)) ?_
      rintro e w2 ⟨s', rfl, ho, e2⟩
      exact exW.i1 (t := .sl) s' rfl ⟨s', rfl, ho, e2⟩
    · rintro e w2 ⟨s', rfl, ho, e2⟩
      exact exW.i1 (t := .sl) s' rfl (k s' w2 ho e2)
  · rintro e w2 ⟨rfl, h2, e2⟩
    exact exW.i0 rfl ⟨rfl, h2, (e1.mono (N := [q]) (by simp)).then e2 (fun i hi _ => hi)⟩
theorem text_spec (w0 w : World) (q : Nat) (F : List UInt8) (x : ByteArray) (h : Wr8 w0 w q F) :
    Calls Try.prog 31 #[.pointer (some ⟨q, 0, none⟩), .string x] w (Step w0 w q F (encT x)) := by
  refine sh_msg_writer_text_ok _ _ _ _ ?_
  unfold sh_msg_writer_text
  refine VNw.i fun b w1 hb hk e1 => ?_
  have hq := h.lt
  have h1 := h.ext0 e1
  have hbq : b ∉ [q] := by simp; omega
  have hel := encT_len x
  refine ⟨fun W => Ext [q] w1 W ∧ ((Wr8 w0 W q F ∧ x.size ≤ 8192) ∨ (∃ s l, WrI w0 W q (F ++ encT x) s l true)), ?_, ?_⟩
  · refine VLd.i1 (t := .str) x (Rd.of_bk hk rfl) (VIf.mk (fun hc => ?_) (fun hc => ?_))
    · have hc : 8192 < x.size := by simp at hc; omega
      obtain ⟨s, l, past, h1⟩ := h1
      refine VNN.i ?_
      simp only [add_blk]
      refine VSt.bk h1.bk rfl (by simp) fun w2 hk2 e2 => ⟨e2, .inr ⟨s, l, hk2, ?_, fun h => (by cases h), fun _ => by rw [List.length_append]; omega, h1.ge, h1.e.then e2 (fun i hi hlt => by simp at hi; have := h1.ge; omega)⟩⟩
      exact ⟨h1.own.1.ext e2 (h1.own.noQ h1.bk (by decide)), h1.own.2⟩
    · have hc : x.size ≤ 8192 := by simp at hc; omega
      exact ⟨Ext.refl _ _, .inl ⟨h1, hc⟩⟩
  · rintro w3 ⟨e3, h3⟩
    have hk3 := hk.ext e3 hbq
    have fin : Calls Try.prog 73 #[.pointer (some ⟨q, 0, none⟩), .func (.func 78) #[] #[.pointer (some ⟨b, 0, none⟩)]] w3 (fun e w' => e = .returned (.tuple #[]) ∧ Wr8 w0 w' q (F ++ encT x) ∧ Ext [q] w3 w') := by
      rcases h3 with ⟨h3, h8⟩ | ⟨s, l, h3⟩
      · rw [encT_eq (by omega)]
        refine add_spec w0 w3 q F (encS x) _ h3 fun s l K hs hl k => ?_
        refine VDyn.i (by kernel_rfl) (VCall.i (R0 := fun e w' => ∃ s' : Sl, e = .returned (.slice s'.base s'.len s'.cap) ∧ Own w3 w' s' (l ++ encS x) ∧ Ext [] w3 w') ?_ ?_)
        · refine sh_msg_writer_text_1_ok _ _ _ _ ?_
          unfold sh_msg_writer_text_1
          refine VLd.i1 (t := .str) x (Rd.of_bk hk3 rfl) ?_
          refine VCall.i (Str_spec s l x w3 hs (by omega)) ?_
          rintro e w2 ⟨s', rfl, ho, e2⟩
          exact exW.i1 (t := .sl) s' rfl ⟨s', rfl, ho, e2⟩
        · rintro e w2 ⟨s', rfl, ho, e2⟩
          exact exW.i1 (t := .sl) s' rfl (k s' w2 ho e2)
      · refine sh_msg_writer_add_ok _ _ _ _ ?_
        unfold sh_msg_writer_add
        have hrd := Rd.of_bk (i := 0) (vs := [.slice s.base s.len s.cap, .bool true]) h3.bk rfl
        refine VNN.i (VLd.i1 (t := .bool) true (hrd.fld 1 rfl) (VIf.t rfl ⟨rfl, ⟨s, l, true, h3⟩, Ext.refl _ _⟩))
    refine VCall.i fin ?_
    rintro e w4 ⟨rfl, h4, e4⟩
    exact exW.i0 rfl ⟨rfl, h4, ((e1.mono (N := [q]) (by simp)).then e3 (fun i hi _ => hi)).then e4 (fun i hi _ => hi)⟩
/-- a call of the writer's, in a walk -/
theorem Step.go {w0 w wb : World} {q : Nat} {F c : List UInt8} {f : FuncId} {args : Array Value} {K : World → Prop} (hs : Calls Try.prog f args w (Step w0 w q F c)) (k : ∀ w', Wr8 w0 w' q (F ++ c) → Ext [q] w w' → K w') :
    VCall none Try.prog f args w (.tuple #[]) K := by
  refine VCall.i hs ?_
  rintro e w' ⟨rfl, h, e'⟩
  exact exW.i0 rfl (k w' h e')
theorem res_spec (w0 w : World) (q : Nat) (F : List UInt8) (k : Int) (f : Bool) (v : ByteArray) (h : Wr8 w0 w q F) (hk : u8ok k) :
    Calls Try.prog 33 #[.pointer (some ⟨q, 0, none⟩), .agg #[.int .u8 k, .bool f, .string v]] w (Step w0 w q F (cRes k f v)) := by
  refine sh_msg_writer_result_ok _ _ _ _ _ _ ?_
  unfold sh_msg_writer_result
  refine VNw.i fun b w1 hb hb1 e1 => ?_
  have hq := h.lt
  have hbq : b ∉ [q] := by simp; omega
  have h1 := h.ext0 e1
  refine VLd.i1 (t := .int .u8) k (Rd.of_bk hb1 rfl) ?_
  refine Step.go (wb := w) (kind_spec w0 w1 q F k h1 hk) fun w2 h2 e2 => ?_
  have hb2 := hb1.ext e2 hbq
  refine VLd.i1 (t := .bool) f (Rd.of_bk hb2 rfl) ?_
  refine Step.go (wb := w) (flag_spec w0 w2 q _ f h2) fun w3 h3 e3 => ?_
  have hb3 := hb2.ext e3 hbq
  refine VLd.i1 (t := .str) v (Rd.of_bk hb3 rfl) ?_
  refine Step.go (wb := w) (text_spec w0 w3 q _ v h3) fun w4 h4 e4 => ?_
  refine ⟨rfl, ?_, (((e1.mono (N := [q]) (by simp)).then e2 (fun i hi _ => hi)).then e3 (fun i hi _ => hi)).then e4 (fun i hi _ => hi)⟩
  unfold cRes
  rw [← List.append_assoc, ← List.append_assoc]
  exact h4
theorem listE_spec (w0 w : World) (q : Nat) (F : List UInt8) (sl : Sl) (X : List EX) (put : Value) (h : Wr8 w0 w q F) (hX : EsIn w0 sl X) (hput : ∀ x ∈ X, ∀ (F : List UInt8) (W : World) (K : World → Prop), Wr8 w0 W q F → Ext [q] w W → (∀ W', Wr8 w0 W' q (F ++ cEn x.en) → Ext [q] W W' → K W') → VDyn none Try.prog put #[env x.1] W (.tuple #[]) K) :
    Calls Try.prog 34 #[.pointer (some ⟨q, 0, none⟩), .slice sl.base sl.len sl.cap, put] w (Step w0 w q F (encC (X.length : Int) ++ X.flatMap fun x => cEn x.en)) := by
  refine sh_msg_list_ok _ _ _ _ _ ?_
  unfold sh_msg_list
  have hlen := hX.len
  have hcap := hX.row.2
  refine VNw.i fun b w1 hb hk e1 => ?_
  have hq := h.lt
  have hbq : b ∉ [q] := by simp; omega
  have h1 := h.ext0 e1
  have hge : w0.heap.size ≤ q := by obtain ⟨s, l, past, h⟩ := h; exact h.ge
  refine Step.go (wb := w) (add_spec w0 w1 q F (encC (X.length : Int)) _ h1 fun s l K hs hl k => ?_) fun w2 h2 e2 => ?_
  · refine VDyn.i (by kernel_rfl) (VCall.i (R0 := fun e w' => ∃ s' : Sl, e = .returned (.slice s'.base s'.len s'.cap) ∧ Own w1 w' s' (l ++ encC (X.length : Int)) ∧ Ext [] w1 w') ?_ ?_)
    · refine sh_msg_list''''_ok _ _ _ _ ?_
      unfold sh_msg_list''''
      refine VLd.s sl (Rd.of_bk hk rfl) ?_
      rw [hlen]
      refine VCall.i (Count_spec s l (X.length : Int) w1 hs (by omega)) ?_
      rintro e w2 ⟨s', rfl, ho, e2⟩
      exact exW.i1 (t := .sl) s' rfl ⟨s', rfl, ho, e2⟩
    · rintro e w2 ⟨s', rfl, ho, e2⟩
      exact exW.i1 (t := .sl) s' rfl (k s' w2 ho e2)
  refine VLd.s sl (Rd.of_bk (hk.ext e2 hbq) rfl) ?_
  have e02 : Ext [q] w w2 := (e1.mono (N := [q]) (by simp)).then e2 (fun i hi _ => hi)
  refine ⟨fun k i W => ∃ m : Nat, i = (m : Int) ∧ m ≤ X.length ∧ k = X.length - m ∧ Wr8 w0 W q (F ++ encC (X.length : Int) ++ (X.take m).flatMap fun x => cEn x.en) ∧ Ext [q] w W, ⟨_, 0, rfl, by omega, rfl, by simpa using h2, e02⟩, ?_⟩
  rintro k i w3 ⟨m, rfl, hm, rfl, h3, e3⟩
  refine VIf.mk (fun hc => ?_) (fun hc => ?_)
  · have hm' : m < X.length := by simp at hc; omega
    have hX3 := hX.ext0 h3.e
    have hsplit : X = X.take m ++ X.drop m := (List.take_append_drop m X).symm
    refine VIx.es hX3 hm' rfl fun a1 hr1 => ⟨((X[m]).1.1 : Int), ((X[m]).1.2.1 : Int), ((X[m]).1.2.2.1 : ByteArray), ((X[m]).1.2.2.2 : Sl), gd.i hr1, ?_⟩
    refine VNw.i fun xb w4 hxb hxk e4 => VSt.bk hxk rfl (by simp) fun w5 hxk5 e5 => ?_
    have e35 : Ext [] w3 w5 := e4.then e5 (fun i hi hlt => by simp at hi; omega)
    have h5 := h3.ext0 e35
    obtain ⟨s, l, past, h5'⟩ := h5
    have hrd := Rd.of_bk (i := 0) (vs := [.slice s.base s.len s.cap, .bool past]) h5'.bk rfl
    refine VNN.i (VLd.i1 (t := .bool) past (hrd.fld 1 rfl) (VIf.mk (fun hp => ?_) (fun hp => ?_)))
    · have hp : past = true := hp
      subst hp
      refine ⟨rfl, ?_, e3.then0 e35⟩
      have := h5'.more ((X.drop m).flatMap fun x => cEn x.en)
      rw [List.append_assoc, ← List.flatMap_append, ← hsplit, List.append_assoc] at this
      exact this
    · refine ⟨((X[m]).1.1 : Int), ((X[m]).1.2.1 : Int), ((X[m]).1.2.2.1 : ByteArray), ((X[m]).1.2.2.2 : Sl), gd.i (Rd.of_bk hxk5 rfl), ?_⟩
      refine hput X[m] (List.getElem_mem hm') _ w5 _ ⟨s, l, past, h5'⟩ (e3.then0 e35) fun w6 h6 e6 => ?_
      rw [w64 (n := (m : Int) + 1) (by omega)]
      refine ⟨_, (show X.length - (m + 1) < X.length - m by omega), m + 1, rfl, by omega, rfl, ?_, (e3.then0 e35).then e6 (fun i hi _ => hi)⟩
      rw [List.take_succ_eq_append_getElem hm', List.flatMap_append, ← List.append_assoc]
      simpa using h6
  · have hmm : m = X.length := by simp at hc; omega
    subst hmm
    rw [List.take_length, List.append_assoc] at h3
    exact ⟨rfl, h3, e3⟩
theorem listI_spec (w0 w : World) (q : Nat) (F : List UInt8) (sl : Sl) (L : List Int) (put : Value) (h : Wr8 w0 w q F) (hX : InR intR w0 sl L) (hput : ∀ x ∈ L, ∀ (F : List UInt8) (W : World) (K : World → Prop), Wr8 w0 W q F → Ext [q] w W → (∀ W', Wr8 w0 W' q (F ++ cNum x) → Ext [q] W W' → K W') → VDyn none Try.prog put #[.int .i64 x] W (.tuple #[]) K) :
    Calls Try.prog 36 #[.pointer (some ⟨q, 0, none⟩), .slice sl.base sl.len sl.cap, put] w (Step w0 w q F (encC (L.length : Int) ++ L.flatMap fun x => cNum x)) := by
  refine sh_msg_list'_ok _ _ _ _ _ ?_
  unfold sh_msg_list'
  have hlen := hX.len
  have hcap := hX.2
  refine VNw.i fun b w1 hb hk e1 => ?_
  have hq := h.lt
  have hbq : b ∉ [q] := by simp; omega
  have h1 := h.ext0 e1
  have hge : w0.heap.size ≤ q := by obtain ⟨s, l, past, h⟩ := h; exact h.ge
  refine Step.go (wb := w) (add_spec w0 w1 q F (encC (L.length : Int)) _ h1 fun s l K hs hl k => ?_) fun w2 h2 e2 => ?_
  · refine VDyn.i (by kernel_rfl) (VCall.i (R0 := fun e w' => ∃ s' : Sl, e = .returned (.slice s'.base s'.len s'.cap) ∧ Own w1 w' s' (l ++ encC (L.length : Int)) ∧ Ext [] w1 w') ?_ ?_)
    · refine sh_msg_list'''''_ok _ _ _ _ ?_
      unfold sh_msg_list'''''
      refine VLd.s sl (Rd.of_bk hk rfl) ?_
      rw [hlen]
      refine VCall.i (Count_spec s l (L.length : Int) w1 hs (by omega)) ?_
      rintro e w2 ⟨s', rfl, ho, e2⟩
      exact exW.i1 (t := .sl) s' rfl ⟨s', rfl, ho, e2⟩
    · rintro e w2 ⟨s', rfl, ho, e2⟩
      exact exW.i1 (t := .sl) s' rfl (k s' w2 ho e2)
  refine VLd.s sl (Rd.of_bk (hk.ext e2 hbq) rfl) ?_
  have e02 : Ext [q] w w2 := (e1.mono (N := [q]) (by simp)).then e2 (fun i hi _ => hi)
  refine ⟨fun k i W => ∃ m : Nat, i = (m : Int) ∧ m ≤ L.length ∧ k = L.length - m ∧ Wr8 w0 W q (F ++ encC (L.length : Int) ++ (L.take m).flatMap fun x => cNum x) ∧ Ext [q] w W, ⟨_, 0, rfl, by omega, rfl, by simpa using h2, e02⟩, ?_⟩
  rintro k i w3 ⟨m, rfl, hm, rfl, h3, e3⟩
  refine VIf.mk (fun hc => ?_) (fun hc => ?_)
  · have hm' : m < L.length := by simp at hc; omega
    have hX3 := hX.ext0 h3.e
    have hsplit : L = L.take m ++ L.drop m := (List.take_append_drop m L).symm
    refine VIx.rec (r := intR) hX3.1 hm' rfl fun a1 hr1 => VLd.i1 (t := .int .i64) (L[m]) hr1 (VSet.i ?_)
    obtain ⟨w5, rfl⟩ : ∃ w5, w5 = w3 := ⟨_, rfl⟩
    have e35 : Ext [] w5 w5 := Ext.refl _ _
    have h5 := h3
    obtain ⟨s, l, past, h5'⟩ := h5
    have hrd := Rd.of_bk (i := 0) (vs := [.slice s.base s.len s.cap, .bool past]) h5'.bk rfl
    refine VNN.i (VLd.i1 (t := .bool) past (hrd.fld 1 rfl) (VIf.mk (fun hp => ?_) (fun hp => ?_)))
    · have hp : past = true := hp
      subst hp
      refine ⟨rfl, ?_, e3.then0 e35⟩
      have := h5'.more ((L.drop m).flatMap fun x => cNum x)
      rw [List.append_assoc, ← List.flatMap_append, ← hsplit, List.append_assoc] at this
      exact this
    · refine hput L[m] (List.getElem_mem hm') _ w5 _ ⟨s, l, past, h5'⟩ (e3.then0 e35) fun w6 h6 e6 => ?_
      rw [w64 (n := (m : Int) + 1) (by omega)]
      refine ⟨_, (show L.length - (m + 1) < L.length - m by omega), m + 1, rfl, by omega, rfl, ?_, (e3.then0 e35).then e6 (fun i hi _ => hi)⟩
      rw [List.take_succ_eq_append_getElem hm', List.flatMap_append, ← List.append_assoc]
      simpa using h6
  · have hmm : m = L.length := by simp at hc; omega
    subst hmm
    rw [List.take_length, List.append_assoc] at h3
    exact ⟨rfl, h3, e3⟩
theorem listP_spec (w0 w : World) (q : Nat) (F : List UInt8) (sl : Sl) (L : List Pr) (put : Value) (h : Wr8 w0 w q F) (hX : InR prR w0 sl L) (hput : ∀ x ∈ L, ∀ (F : List UInt8) (W : World) (K : World → Prop), Wr8 w0 W q F → Ext [q] w W → (∀ W', Wr8 w0 W' q (F ++ cPr x) → Ext [q] W W' → K W') → VDyn none Try.prog put #[.agg #[.string x.1, .string x.2]] W (.tuple #[]) K) :
    Calls Try.prog 37 #[.pointer (some ⟨q, 0, none⟩), .slice sl.base sl.len sl.cap, put] w (Step w0 w q F (encC (L.length : Int) ++ L.flatMap fun x => cPr x)) := by
  refine sh_msg_list''_ok _ _ _ _ _ ?_
  unfold sh_msg_list''
  have hlen := hX.len
  have hcap := hX.2
  refine VNw.i fun b w1 hb hk e1 => ?_
  have hq := h.lt
  have hbq : b ∉ [q] := by simp; omega
  have h1 := h.ext0 e1
  have hge : w0.heap.size ≤ q := by obtain ⟨s, l, past, h⟩ := h; exact h.ge
  refine Step.go (wb := w) (add_spec w0 w1 q F (encC (L.length : Int)) _ h1 fun s l K hs hl k => ?_) fun w2 h2 e2 => ?_
  · refine VDyn.i (by kernel_rfl) (VCall.i (R0 := fun e w' => ∃ s' : Sl, e = .returned (.slice s'.base s'.len s'.cap) ∧ Own w1 w' s' (l ++ encC (L.length : Int)) ∧ Ext [] w1 w') ?_ ?_)
    · refine sh_msg_list''''''_ok _ _ _ _ ?_
      unfold sh_msg_list''''''
      refine VLd.s sl (Rd.of_bk hk rfl) ?_
      rw [hlen]
      refine VCall.i (Count_spec s l (L.length : Int) w1 hs (by omega)) ?_
      rintro e w2 ⟨s', rfl, ho, e2⟩
      exact exW.i1 (t := .sl) s' rfl ⟨s', rfl, ho, e2⟩
    · rintro e w2 ⟨s', rfl, ho, e2⟩
      exact exW.i1 (t := .sl) s' rfl (k s' w2 ho e2)
  refine VLd.s sl (Rd.of_bk (hk.ext e2 hbq) rfl) ?_
  have e02 : Ext [q] w w2 := (e1.mono (N := [q]) (by simp)).then e2 (fun i hi _ => hi)
  refine ⟨fun k i W => ∃ m : Nat, i = (m : Int) ∧ m ≤ L.length ∧ k = L.length - m ∧ Wr8 w0 W q (F ++ encC (L.length : Int) ++ (L.take m).flatMap fun x => cPr x) ∧ Ext [q] w W, ⟨_, 0, rfl, by omega, rfl, by simpa using h2, e02⟩, ?_⟩
  rintro k i w3 ⟨m, rfl, hm, rfl, h3, e3⟩
  refine VIf.mk (fun hc => ?_) (fun hc => ?_)
  · have hm' : m < L.length := by simp at hc; omega
    have hX3 := hX.ext0 h3.e
    have hsplit : L = L.take m ++ L.drop m := (List.take_append_drop m L).symm
    refine VIx.rec (r := prR) hX3.1 hm' rfl fun a1 hr1 => VLd.i2 (t := .str) (u := .str) (L[m]).1 (L[m]).2 hr1 ?_
    refine VNw.i fun xb w4 hxb hxk e4 => VSt.bk hxk rfl (by simp) fun w5 hxk5 e5 => ?_
    have e35 : Ext [] w3 w5 := e4.then e5 (fun i hi hlt => by simp at hi; omega)
    have h5 := h3.ext0 e35
    obtain ⟨s, l, past, h5'⟩ := h5
    have hrd := Rd.of_bk (i := 0) (vs := [.slice s.base s.len s.cap, .bool past]) h5'.bk rfl
    refine VNN.i (VLd.i1 (t := .bool) past (hrd.fld 1 rfl) (VIf.mk (fun hp => ?_) (fun hp => ?_)))
    · have hp : past = true := hp
      subst hp
      refine ⟨rfl, ?_, e3.then0 e35⟩
      have := h5'.more ((L.drop m).flatMap fun x => cPr x)
      rw [List.append_assoc, ← List.flatMap_append, ← hsplit, List.append_assoc] at this
      exact this
    · refine VLd.i2 (t := .str) (u := .str) (L[m]).1 (L[m]).2 (Rd.of_bk hxk5 rfl) ?_
      refine hput L[m] (List.getElem_mem hm') _ w5 _ ⟨s, l, past, h5'⟩ (e3.then0 e35) fun w6 h6 e6 => ?_
      rw [w64 (n := (m : Int) + 1) (by omega)]
      refine ⟨_, (show L.length - (m + 1) < L.length - m by omega), m + 1, rfl, by omega, rfl, ?_, (e3.then0 e35).then e6 (fun i hi _ => hi)⟩
      rw [List.take_succ_eq_append_getElem hm', List.flatMap_append, ← List.append_assoc]
      simpa using h6
  · have hmm : m = L.length := by simp at hc; omega
    subst hmm
    rw [List.take_length, List.append_assoc] at h3
    exact ⟨rfl, h3, e3⟩
theorem listQ_spec (w0 w : World) (q : Nat) (F : List UInt8) (sl : Sl) (L : List Ls) (put : Value) (h : Wr8 w0 w q F) (hX : InR lsR w0 sl L) (hput : ∀ x ∈ L, ∀ (F : List UInt8) (W : World) (K : World → Prop), Wr8 w0 W q F → Ext [q] w W → (∀ W', Wr8 w0 W' q (F ++ cLs x) → Ext [q] W W' → K W') → VDyn none Try.prog put #[.agg #[.int .i64 x.1, .int .i64 x.2.1, .int .u8 x.2.2.1, .bool x.2.2.2.1, .string x.2.2.2.2]] W (.tuple #[]) K) :
    Calls Try.prog 39 #[.pointer (some ⟨q, 0, none⟩), .slice sl.base sl.len sl.cap, put] w (Step w0 w q F (encC (L.length : Int) ++ L.flatMap fun x => cLs x)) := by
  refine sh_msg_list'''_ok _ _ _ _ _ ?_
  unfold sh_msg_list'''
  have hlen := hX.len
  have hcap := hX.2
  refine VNw.i fun b w1 hb hk e1 => ?_
  have hq := h.lt
  have hbq : b ∉ [q] := by simp; omega
  have h1 := h.ext0 e1
  have hge : w0.heap.size ≤ q := by obtain ⟨s, l, past, h⟩ := h; exact h.ge
  refine Step.go (wb := w) (add_spec w0 w1 q F (encC (L.length : Int)) _ h1 fun s l K hs hl k => ?_) fun w2 h2 e2 => ?_
  · refine VDyn.i (by kernel_rfl) (VCall.i (R0 := fun e w' => ∃ s' : Sl, e = .returned (.slice s'.base s'.len s'.cap) ∧ Own w1 w' s' (l ++ encC (L.length : Int)) ∧ Ext [] w1 w') ?_ ?_)
    · refine sh_msg_list'''''''_ok _ _ _ _ ?_
      unfold sh_msg_list'''''''
      refine VLd.s sl (Rd.of_bk hk rfl) ?_
      rw [hlen]
      refine VCall.i (Count_spec s l (L.length : Int) w1 hs (by omega)) ?_
      rintro e w2 ⟨s', rfl, ho, e2⟩
      exact exW.i1 (t := .sl) s' rfl ⟨s', rfl, ho, e2⟩
    · rintro e w2 ⟨s', rfl, ho, e2⟩
      exact exW.i1 (t := .sl) s' rfl (k s' w2 ho e2)
  refine VLd.s sl (Rd.of_bk (hk.ext e2 hbq) rfl) ?_
  have e02 : Ext [q] w w2 := (e1.mono (N := [q]) (by simp)).then e2 (fun i hi _ => hi)
  refine ⟨fun k i W => ∃ m : Nat, i = (m : Int) ∧ m ≤ L.length ∧ k = L.length - m ∧ Wr8 w0 W q (F ++ encC (L.length : Int) ++ (L.take m).flatMap fun x => cLs x) ∧ Ext [q] w W, ⟨_, 0, rfl, by omega, rfl, by simpa using h2, e02⟩, ?_⟩
  rintro k i w3 ⟨m, rfl, hm, rfl, h3, e3⟩
  refine VIf.mk (fun hc => ?_) (fun hc => ?_)
  · have hm' : m < L.length := by simp at hc; omega
    have hX3 := hX.ext0 h3.e
    have hsplit : L = L.take m ++ L.drop m := (List.take_append_drop m L).symm
    refine VIx.rec (r := lsR) hX3.1 hm' rfl fun a1 hr1 => VLd.i5 (t := .int .i64) (u := .int .i64) (v := .int .u8) (s := .bool) (r := .str) (L[m]).1 (L[m]).2.1 (L[m]).2.2.1 (L[m]).2.2.2.1 (L[m]).2.2.2.2 hr1 ?_
    refine VNw.i fun xb w4 hxb hxk e4 => VSt.bk hxk rfl (by simp) fun w5 hxk5 e5 => ?_
    have e35 : Ext [] w3 w5 := e4.then e5 (fun i hi hlt => by simp at hi; omega)
    have h5 := h3.ext0 e35
    obtain ⟨s, l, past, h5'⟩ := h5
    have hrd := Rd.of_bk (i := 0) (vs := [.slice s.base s.len s.cap, .bool past]) h5'.bk rfl
    refine VNN.i (VLd.i1 (t := .bool) past (hrd.fld 1 rfl) (VIf.mk (fun hp => ?_) (fun hp => ?_)))
    · have hp : past = true := hp
      subst hp
      refine ⟨rfl, ?_, e3.then0 e35⟩
      have := h5'.more ((L.drop m).flatMap fun x => cLs x)
      rw [List.append_assoc, ← List.flatMap_append, ← hsplit, List.append_assoc] at this
      exact this
    · refine VLd.i5 (t := .int .i64) (u := .int .i64) (v := .int .u8) (s := .bool) (r := .str) (L[m]).1 (L[m]).2.1 (L[m]).2.2.1 (L[m]).2.2.2.1 (L[m]).2.2.2.2 (Rd.of_bk hxk5 rfl) ?_
      refine hput L[m] (List.getElem_mem hm') _ w5 _ ⟨s, l, past, h5'⟩ (e3.then0 e35) fun w6 h6 e6 => ?_
      rw [w64 (n := (m : Int) + 1) (by omega)]
      refine ⟨_, (show L.length - (m + 1) < L.length - m by omega), m + 1, rfl, by omega, rfl, ?_, (e3.then0 e35).then e6 (fun i hi _ => hi)⟩
      rw [List.take_succ_eq_append_getElem hm', List.flatMap_append, ← List.append_assoc]
      simpa using h6
  · have hmm : m = L.length := by simp at hc; omega
    subst hmm
    rw [List.take_length, List.append_assoc] at h3
    exact ⟨rfl, h3, e3⟩
end Go.Proofs.Ytodcdfelbphajaa
