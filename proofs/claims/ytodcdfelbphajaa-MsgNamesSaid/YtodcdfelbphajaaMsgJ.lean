/-
  Package msg: a message is written.
-/
import Derived.Test.YtodcdfelbphajaaMsgI
import Derived.Test.YtodcdfelbphajaaMsgC
namespace Go.Proofs.Ytodcdfelbphajaa
open Go.RowKit
set_option maxRecDepth 100000

def enOk (x : En) : Prop := i64ok x.1 ∧ u8ok x.2.1 ∧ x.2.2.1.size ≤ 1048576 ∧ x.2.2.2.length ≤ 1048576 ∧ ∀ n ∈ x.2.2.2, i64ok n
def lsOk (x : Ls) : Prop := i64ok x.1 ∧ i64ok x.2.1 ∧ u8ok x.2.2.1 ∧ x.2.2.2.2.size ≤ 1048576
/-- what a message must be for its bytes to be spoken of -/
structure EOk (p : MP) : Prop where
  k0 : u8ok p.c.f0
  k7 : u8ok p.c.f7
  k13 : u8ok p.c.f13
  k29 : u8ok p.c.f29
  n1 : ∀ n ∈ [p.c.f1, p.c.f2, p.c.f3, p.c.f4, p.c.f5, p.c.f6], i64ok n
  n12 : i64ok p.c.f12
  n16 : ∀ n ∈ [p.c.f16, p.c.f17, p.c.f18, p.c.f19, p.c.f20], i64ok n
  n25 : i64ok p.c.f25
  n30 : ∀ n ∈ [p.c.f30, p.c.f31, p.c.f32], i64ok n
  s8 : ∀ s ∈ [p.c.f8, p.c.f9, p.c.f10], s.size ≤ 1048576
  s15 : p.c.f15.size ≤ 1048576
  s24 : p.c.f24.size ≤ 1048576
  e : ∀ x ∈ p.E, enOk x
  l : ∀ n ∈ p.L, i64ok n
  pp : ∀ x ∈ p.P, x.1.size ≤ 1048576 ∧ x.2.size ≤ 1048576
  qq : ∀ x ∈ p.Q, lsOk x
/-- what Go's types say of it -/
structure EO (p : MP) : Prop where
  k0 : u8ok p.c.f0
  k7 : u8ok p.c.f7
  k13 : u8ok p.c.f13
  k29 : u8ok p.c.f29
  n1 : ∀ n ∈ [p.c.f1, p.c.f2, p.c.f3, p.c.f4, p.c.f5, p.c.f6], i64ok n
  n12 : i64ok p.c.f12
  n16 : ∀ n ∈ [p.c.f16, p.c.f17, p.c.f18, p.c.f19, p.c.f20], i64ok n
  n25 : i64ok p.c.f25
  n30 : ∀ n ∈ [p.c.f30, p.c.f31, p.c.f32], i64ok n
  e : ∀ x ∈ p.E, i64ok x.1 ∧ u8ok x.2.1 ∧ ∀ n ∈ x.2.2.2, i64ok n
  l : ∀ n ∈ p.L, i64ok n
  qq : ∀ x ∈ p.Q, i64ok x.1 ∧ i64ok x.2.1 ∧ u8ok x.2.2.1
theorem EOk.eo {p : MP} (h : EOk p) : EO p :=
  ⟨h.k0, h.k7, h.k13, h.k29, h.n1, h.n12, h.n16, h.n25, h.n30, fun x hx => ⟨(h.e x hx).1, (h.e x hx).2.1, (h.e x hx).2.2.2.2⟩, h.l, fun x hx => ⟨(h.qq x hx).1, (h.qq x hx).2.1, (h.qq x hx).2.2.1⟩⟩
/-- the bytes of a message -/
def encM (p : MP) : List UInt8 :=
  [] ++ encC p.c.f0 ++ ([p.c.f1, p.c.f2, p.c.f3, p.c.f4, p.c.f5, p.c.f6] : List Int).flatMap cNum ++ encC p.c.f7 ++ ([p.c.f8, p.c.f9, p.c.f10] : List ByteArray).flatMap encT ++ cFlag p.c.f11 ++ cNum p.c.f12 ++ cRes p.c.f13 p.c.f14 p.c.f15 ++
  ([p.c.f16, p.c.f17, p.c.f18, p.c.f19, p.c.f20] : List Int).flatMap cNum ++ cFlag p.c.f21 ++ (encC (p.E.length : Int) ++ p.E.flatMap cEn) ++ cInts p.L ++ encT p.c.f24 ++ cNum p.c.f25 ++ cFlag p.c.f26 ++ (encC (p.P.length : Int) ++ p.P.flatMap cPr) ++
  (encC (p.Q.length : Int) ++ p.Q.flatMap cLs) ++ encC p.c.f29 ++ ([p.c.f30, p.c.f31, p.c.f32] : List Int).flatMap cNum
/-- what comes of it -/
def encP (p : MP) : Int × List UInt8 := if p.c.f0 < 1 ∨ 19 < p.c.f0 then (1, []) else if 8192 < (encM p).length then (40, []) else (0, encM p)

structure En_ (w0 W : World) (a : MV) (mb wb q : Nat) (F : List UInt8) : Prop where
  m : Bk W mb (mvF a) 34
  p : Bk W wb [.pointer (some ⟨q, 0, none⟩)] 64
  wr : Wr8 w0 W q F
  mq : mb ≠ q
  wq : wb ≠ q
section
variable {w0 W : World} {a : MV} {mb wb q : Nat} {F c : List UInt8}
theorem En_.ext0 {W' : World} (h : En_ w0 W a mb wb q F) (e : Ext [] W W') : En_ w0 W' a mb wb q F := ⟨h.m.ext e, h.p.ext e, h.wr.ext0 e, h.mq, h.wq⟩
theorem En_.extq {W' : World} (h : En_ w0 W a mb wb q F) (h' : Wr8 w0 W' q (F ++ c)) (e : Ext [q] W W') : En_ w0 W' a mb wb q (F ++ c) := ⟨h.m.ext e (by simpa using h.mq), h.p.ext e (by simpa using h.wq), h', h.mq, h.wq⟩
theorem En_.ld (h : En_ w0 W a mb wb q F) {K : Option Addr → Prop} (k : K (some ⟨q, 0, none⟩)) : VLd none W ⟨wb, 0, none⟩ [CT.ptr] K := VLd.i1 (t := .ptr) (some ⟨q, 0, none⟩) (Rd.of_bk h.p rfl) k
theorem En_.step (h : En_ w0 W a mb wb q F) {f : FuncId} {args : Array Value} {K : World → Prop} (hs : Calls Try.prog f args W (Step w0 W q F c)) (k : ∀ W', En_ w0 W' a mb wb q (F ++ c) → Ext [q] W W' → K W') : VCall none Try.prog f args W (.tuple #[]) K :=
  Step.go (wb := W) hs fun W' h' e' => k W' (h.extq h' e') e'
/-- a row of numbers that stands in memory -/
theorem En_.ints (h : En_ w0 W a mb wb q F) {b n : Nat} {L : List Int} (hb : Bk W b (intR.cells L) 3) (hL : ∀ n ∈ L, i64ok n) (hbq : b ≠ q) (hn : L.length = n) (hn2 : n ≤ 100) {K : World → Prop} (k : ∀ W', En_ w0 W' a mb wb q (F ++ L.flatMap cNum) → K W') :
    ∃ I1 : Nat → Int → World → Prop, (∃ k, I1 k 0 W) ∧ ∀ k1 (x41 : Int) (w7 : World), I1 k1 x41 w7 →
      VIf (decide (x41 < ((n : Nat) : Int))) (
        VIx none (some ⟨b, 0, none⟩) n x41 fun (a43 : Addr) =>
        VLd none w7 (Addr.add a43 ((Int.toNat x41) * 1)) [CT.int .i64] fun (v44 : Int) =>
        VSet v44 fun (n_6 : Int) =>
        VLd none w7 ⟨wb, 0, none⟩ [CT.ptr] fun (v45 : Option Addr) =>
        VCall none Try.prog 30 #[.pointer v45, .int .i64 n_6] w7 (.tuple #[]) fun (w8 : World) =>
        ∃ k', k' < k1 ∧ I1 k' (IntKind.wrap .i64 (x41 + 1)) w8
      ) (K w7) := by
  subst hn
  refine ⟨fun k i w => ∃ m : Nat, i = (m : Int) ∧ m ≤ L.length ∧ k = L.length - m ∧ En_ w0 w a mb wb q (F ++ (L.take m).flatMap cNum) ∧ Bk w b (intR.cells L) 3, ⟨_, 0, rfl, by omega, rfl, by simpa using h, hb⟩, ?_⟩
  rintro k1 i w7 ⟨m, rfl, hm, rfl, h7, hb7⟩
  refine VIf.mk (fun hc => ?_) (fun hc => ?_)
  · have hm' : m < L.length := by simp at hc; omega
    have hseg : Seg w7 (some ⟨b, 0, none⟩) L.length intR.k (intR.cells L) := Seg.of_bk hb7 (by simp) (Rec.cells_len L)
    refine VIx.rec (r := intR) hseg hm' rfl fun a1 hr1 => VLd.i1 (t := .int .i64) (L[m]) hr1 (VSet.i (h7.ld ?_))
    refine h7.step (num_spec w0 w7 q _ (L[m]) h7.wr (hL _ (List.getElem_mem hm'))) fun w8 h8 e8 => ?_
    rw [w64 (n := (m : Int) + 1) (by omega)]
    refine ⟨_, (show L.length - (m + 1) < L.length - m by omega), m + 1, rfl, by omega, rfl, ?_, hb7.ext e8 (by simpa using hbq)⟩
    rw [List.take_succ_eq_append_getElem hm', List.flatMap_append, ← List.append_assoc]
    simpa using h8
  · have hmm : m = L.length := by simp at hc; omega
    subst hmm
    rw [List.take_length] at h7
    exact k w7 h7
def strR : Rec ByteArray := ⟨fun s => [.string s], 1, fun _ => rfl, fun _ => rfl, by omega⟩
theorem En_.texts (h : En_ w0 W a mb wb q F) {b n : Nat} {L : List ByteArray} (hb : Bk W b (strR.cells L) 9) (hbq : b ≠ q) (hn : L.length = n) (hn2 : n ≤ 100) {K : World → Prop} (k : ∀ W', En_ w0 W' a mb wb q (F ++ L.flatMap encT) → K W') :
    ∃ I1 : Nat → Int → World → Prop, (∃ k, I1 k 0 W) ∧ ∀ k1 (x41 : Int) (w7 : World), I1 k1 x41 w7 →
      VIf (decide (x41 < ((n : Nat) : Int))) (
        VIx none (some ⟨b, 0, none⟩) n x41 fun (a43 : Addr) =>
        VLd none w7 (Addr.add a43 ((Int.toNat x41) * 1)) [CT.str] fun (v44 : ByteArray) =>
        VLd none w7 ⟨wb, 0, none⟩ [CT.ptr] fun (v45 : Option Addr) =>
        VCall none Try.prog 31 #[.pointer v45, .string v44] w7 (.tuple #[]) fun (w8 : World) =>
        ∃ k', k' < k1 ∧ I1 k' (IntKind.wrap .i64 (x41 + 1)) w8
      ) (K w7) := by
  subst hn
  refine ⟨fun k i w => ∃ m : Nat, i = (m : Int) ∧ m ≤ L.length ∧ k = L.length - m ∧ En_ w0 w a mb wb q (F ++ (L.take m).flatMap encT) ∧ Bk w b (strR.cells L) 9, ⟨_, 0, rfl, by omega, rfl, by simpa using h, hb⟩, ?_⟩
  rintro k1 i w7 ⟨m, rfl, hm, rfl, h7, hb7⟩
  refine VIf.mk (fun hc => ?_) (fun hc => ?_)
  · have hm' : m < L.length := by simp at hc; omega
    have hseg : Seg w7 (some ⟨b, 0, none⟩) L.length strR.k (strR.cells L) := Seg.of_bk hb7 (by simp) (Rec.cells_len L)
    refine VIx.rec (r := strR) hseg hm' rfl fun a1 hr1 => VLd.i1 (t := .str) (L[m]) hr1 (h7.ld ?_)
    refine h7.step (text_spec w0 w7 q _ (L[m]) h7.wr) fun w8 h8 e8 => ?_
    rw [w64 (n := (m : Int) + 1) (by omega)]
    refine ⟨_, (show L.length - (m + 1) < L.length - m by omega), m + 1, rfl, by omega, rfl, ?_, hb7.ext e8 (by simpa using hbq)⟩
    rw [List.take_succ_eq_append_getElem hm', List.flatMap_append, ← List.append_assoc]
    simpa using h8
  · have hmm : m = L.length := by simp at hc; omega
    subst hmm
    rw [List.take_length] at h7
    exact k w7 h7
end
/-! what is put into lists -/
section
variable {w0 w W : World} {q wb : Nat} {F : List UInt8}
theorem putI (x : Int) (hx : i64ok x) (h : Wr8 w0 W q F) {K : World → Prop} (k : ∀ W', Wr8 w0 W' q (F ++ cNum x) → Ext [q] W W' → K W') : VDyn none Try.prog (.func (.func 30) #[.pointer (some ⟨q, 0, none⟩)] #[]) #[.int .i64 x] W (.tuple #[]) K :=
  VDyn.i (by kernel_rfl) (Step.go (wb := W) (num_spec w0 W q F x h hx) k)
theorem putE_spec (x : EX) (hx : i64ok x.1.1 ∧ u8ok x.1.2.1 ∧ ∀ n ∈ x.2, i64ok n) (hi : InR intR w0 x.1.2.2.2 x.2) (h : Wr8 w0 W q F) (hp : Bk W wb [.pointer (some ⟨q, 0, none⟩)] 64) (hwq : wb ≠ q) :
    Calls Try.prog 35 #[env x.1, .pointer (some ⟨wb, 0, none⟩)] W (Step w0 W q F (cEn x.en)) := by
  obtain ⟨x1, x2, x5⟩ := hx
  refine sh_msg_Encode_1_ok _ _ _ _ _ _ _ ?_
  unfold sh_msg_Encode_1
  refine VNw.i fun b w1 hb hk e1 => ?_
  have hq := h.lt
  have hbq : b ∉ [q] := by simp; omega
  have hw : wb ∉ [q] := by simpa using hwq
  have h1 := h.ext0 e1
  have hp1 := hp.ext e1
  refine VLd.i1 (t := .ptr) (some ⟨q, 0, none⟩) (Rd.of_bk hp1 rfl) (VLd.i1 (t := .int .i64) x.1.1 (Rd.of_bk hk rfl) ?_)
  refine Step.go (wb := W) (num_spec w0 w1 q F x.1.1 h1 x1) fun w2 h2 e2 => ?_
  have hp2 := hp1.ext e2 hw
  have hk2 := hk.ext e2 hbq
  refine VLd.i1 (t := .ptr) (some ⟨q, 0, none⟩) (Rd.of_bk hp2 rfl) (VLd.i1 (t := .int .u8) x.1.2.1 (Rd.of_bk hk2 rfl) ?_)
  refine Step.go (wb := W) (kind_spec w0 w2 q _ x.1.2.1 h2 x2) fun w3 h3 e3 => ?_
  have hp3 := hp2.ext e3 hw
  have hk3 := hk2.ext e3 hbq
  refine VLd.i1 (t := .ptr) (some ⟨q, 0, none⟩) (Rd.of_bk hp3 rfl) (VLd.i1 (t := .str) x.1.2.2.1 (Rd.of_bk hk3 rfl) ?_)
  refine Step.go (wb := W) (text_spec w0 w3 q _ x.1.2.2.1 h3) fun w4 h4 e4 => ?_
  have hp4 := hp3.ext e4 hw
  have hk4 := hk3.ext e4 hbq
  refine VLd.i1 (t := .ptr) (some ⟨q, 0, none⟩) (Rd.of_bk hp4 rfl) (VLd.s x.1.2.2.2 (Rd.of_bk hk4 rfl) (VLd.i1 (t := .ptr) (some ⟨q, 0, none⟩) (Rd.of_bk hp4 rfl) ?_))
  refine Step.go (wb := W) (listI_spec w0 w4 q _ x.1.2.2.2 x.2 _ h4 hi fun n hn F' W' K' h' e' k' => putI n (x5 n hn) h' k') fun w5 h5 e5 => ?_
  refine ⟨rfl, ?_, ((((e1.mono (N := [q]) (by simp)).then e2 (fun i hi _ => hi)).then e3 (fun i hi _ => hi)).then e4 (fun i hi _ => hi)).then e5 (fun i hi _ => hi)⟩
  have : F ++ cEn x.en = F ++ cNum x.1.1 ++ encC x.1.2.1 ++ encT x.1.2.2.1 ++ (encC (x.2.length : Int) ++ x.2.flatMap fun x => cNum x) := by
    simp only [cEn, EX.en, cInts, List.append_assoc]
  rw [this]
  exact h5
theorem putP_spec (x : Pr) (h : Wr8 w0 W q F) (hp : Bk W wb [.pointer (some ⟨q, 0, none⟩)] 64) (hwq : wb ≠ q) :
    Calls Try.prog 38 #[.agg #[.string x.1, .string x.2], .pointer (some ⟨wb, 0, none⟩)] W (Step w0 W q F (cPr x)) := by
  refine sh_msg_Encode_2_ok _ _ _ _ _ ?_
  unfold sh_msg_Encode_2
  refine VNw.i fun b w1 hb hk e1 => ?_
  have hq := h.lt
  have hbq : b ∉ [q] := by simp; omega
  have hw : wb ∉ [q] := by simpa using hwq
  have h1 := h.ext0 e1
  have hp1 := hp.ext e1
  refine VLd.i1 (t := .ptr) (some ⟨q, 0, none⟩) (Rd.of_bk hp1 rfl) (VLd.i1 (t := .str) x.1 (Rd.of_bk hk rfl) ?_)
  refine Step.go (wb := W) (text_spec w0 w1 q F x.1 h1) fun w2 h2 e2 => ?_
  have hp2 := hp1.ext e2 hw
  have hk2 := hk.ext e2 hbq
  refine VLd.i1 (t := .ptr) (some ⟨q, 0, none⟩) (Rd.of_bk hp2 rfl) (VLd.i1 (t := .str) x.2 (Rd.of_bk hk2 rfl) ?_)
  refine Step.go (wb := W) (text_spec w0 w2 q _ x.2 h2) fun w3 h3 e3 => ?_
  refine ⟨rfl, ?_, ((e1.mono (N := [q]) (by simp)).then e2 (fun i hi _ => hi)).then e3 (fun i hi _ => hi)⟩
  unfold cPr
  rw [← List.append_assoc]
  exact h3
theorem putQ_spec (x : Ls) (hx : i64ok x.1 ∧ i64ok x.2.1 ∧ u8ok x.2.2.1) (h : Wr8 w0 W q F) (hp : Bk W wb [.pointer (some ⟨q, 0, none⟩)] 64) (hwq : wb ≠ q) :
    Calls Try.prog 40 #[.agg #[.int .i64 x.1, .int .i64 x.2.1, .int .u8 x.2.2.1, .bool x.2.2.2.1, .string x.2.2.2.2], .pointer (some ⟨wb, 0, none⟩)] W (Step w0 W q F (cLs x)) := by
  obtain ⟨x1, x2, x3⟩ := hx
  refine sh_msg_Encode_3_ok _ _ _ _ _ _ _ _ ?_
  unfold sh_msg_Encode_3
  refine VNw.i fun b w1 hb hk e1 => ?_
  have hq := h.lt
  have hbq : b ∉ [q] := by simp; omega
  have hw : wb ∉ [q] := by simpa using hwq
  have h1 := h.ext0 e1
  have hp1 := hp.ext e1
  refine VLd.i1 (t := .ptr) (some ⟨q, 0, none⟩) (Rd.of_bk hp1 rfl) (VLd.i1 (t := .int .i64) x.1 (Rd.of_bk hk rfl) ?_)
  refine Step.go (wb := W) (num_spec w0 w1 q F x.1 h1 x1) fun w2 h2 e2 => ?_
  have hp2 := hp1.ext e2 hw
  have hk2 := hk.ext e2 hbq
  refine VLd.i1 (t := .ptr) (some ⟨q, 0, none⟩) (Rd.of_bk hp2 rfl) (VLd.i1 (t := .int .i64) x.2.1 (Rd.of_bk hk2 rfl) ?_)
  refine Step.go (wb := W) (num_spec w0 w2 q _ x.2.1 h2 x2) fun w3 h3 e3 => ?_
  have hp3 := hp2.ext e3 hw
  have hk3 := hk2.ext e3 hbq
  refine VLd.i1 (t := .ptr) (some ⟨q, 0, none⟩) (Rd.of_bk hp3 rfl) (VLd.i3 (t := .int .u8) (u := .bool) (v := .str) x.2.2.1 x.2.2.2.1 x.2.2.2.2 (Rd.of_bk hk3 rfl) ?_)
  refine Step.go (wb := W) (res_spec w0 w3 q _ x.2.2.1 x.2.2.2.1 x.2.2.2.2 h3 x3) fun w4 h4 e4 => ?_
  refine ⟨rfl, ?_, (((e1.mono (N := [q]) (by simp)).then e2 (fun i hi _ => hi)).then e3 (fun i hi _ => hi)).then e4 (fun i hi _ => hi)⟩
  unfold cLs
  rw [← List.append_assoc, ← List.append_assoc]
  exact h4
end
set_option maxHeartbeats 1000000 in
theorem Encode_spec (a : MV) (p : MP) (X : List EX) (w : World) (h : MIn w a p X) (hok : EO p) :
    Calls Try.prog 14 #[mva a] w fun e w' => ∃ s : Sl, e = .returned (.tuple #[.slice s.base s.len s.cap, .int .i64 (encP p).1]) ∧ Own w w' s (encP p).2 ∧ Ext [] w w' := by
  unfold mva
  apply sh_msg_Encode_ok
  unfold sh_msg_Encode
  have k0 := hok.k0
  have hc := h.c
  refine VNw.i fun mb w1 hb1 hk1 e1 => ?_
  have hk1 : Bk w1 mb (mvF a) 34 := hk1
  refine VLd.i1 (t := .int .u8) a.c.f0 (Rd.of_bk hk1 rfl) (VLd.i1 (t := .int .u8) a.c.f0 (Rd.of_bk hk1 rfl) (VIf.mk (fun hd => ?_) (fun hd => ?_)))
  · have hd : p.c.f0 < 1 ∨ 19 < p.c.f0 := by
      rw [hc] at hd
      simp at hd
      unfold u8ok at k0
      omega
    have : encP p = (1, []) := by unfold encP; rw [if_pos hd]
    rw [this]
    exact ⟨⟨none, 0, 0⟩, rfl, Own.nil _ _, e1⟩
  have hd : ¬ (p.c.f0 < 1 ∨ 19 < p.c.f0) := by
    rw [hc] at hd
    simp at hd
    unfold u8ok at k0
    omega
  refine VNw.i fun q w2 hb2 hk2 e2 => VNw.i fun wb w3 hb3 hk3 e3 => VSt.bk hk3 rfl (by simp) fun w4 hk4 e4 => ?_
  have hk4 : Bk w4 wb [.pointer (some ⟨q, 0, none⟩)] 64 := hk4
  have e34 : Ext [] w2 w4 := e3.then e4 (fun i hi hlt => by simp at hi; omega)
  have e04 := (e1.then0 e2).then0 e34
  have l1 := hk1.lt
  have l2 := hk2.lt
  have s1 := e1.size
  have h4 : En_ w w4 a mb wb q [] := ⟨(hk1.ext e2).ext e34, hk4, ⟨⟨none, 0, 0⟩, [], false, (hk2.ext e34), Own.nil _ _, fun _ => ⟨rfl, by simp⟩, fun h => (by cases h), by omega, e04⟩, by omega, by omega⟩
  refine h4.ld (VLd.i1 (t := .int .u8) a.c.f0 (Rd.of_bk h4.m rfl) ?_)
  refine h4.step (kind_spec w w4 q _ a.c.f0 h4.wr (by rw [hc]; exact hok.k0)) fun w5 h5 _ => ?_
  refine VLd.i1 (t := .int .i64) a.c.f1 (Rd.of_bk h5.m rfl) (VLd.i1 (t := .int .i64) a.c.f2 (Rd.of_bk h5.m rfl) (VLd.i1 (t := .int .i64) a.c.f3 (Rd.of_bk h5.m rfl) (VLd.i1 (t := .int .i64) a.c.f4 (Rd.of_bk h5.m rfl) (VLd.i1 (t := .int .i64) a.c.f5 (Rd.of_bk h5.m rfl) (VLd.i1 (t := .int .i64) a.c.f6 (Rd.of_bk h5.m rfl) ?_)))))
  refine VNw.i fun b6 w6 hb6 hk6 e6 => ?_
  have q5 := h5.wr.lt
  refine (h5.ext0 e6).ints (L := [a.c.f1, a.c.f2, a.c.f3, a.c.f4, a.c.f5, a.c.f6]) hk6 (by rw [hc]; exact hok.n1) (by omega) rfl (by simp) fun w7 h7 => ?_
  refine h7.ld (VLd.i1 (t := .int .u8) a.c.f7 (Rd.of_bk h7.m rfl) ?_)
  refine h7.step (kind_spec w w7 q _ a.c.f7 h7.wr (by rw [hc]; exact hok.k7)) fun w9 h9 _ => ?_
  refine VLd.i1 (t := .str) a.c.f8 (Rd.of_bk h9.m rfl) (VLd.i1 (t := .str) a.c.f9 (Rd.of_bk h9.m rfl) (VLd.i1 (t := .str) a.c.f10 (Rd.of_bk h9.m rfl) ?_))
  refine VNw.i fun b10 w10 hb10 hk10 e10 => ?_
  have q9 := h9.wr.lt
  refine (h9.ext0 e10).texts (L := [a.c.f8, a.c.f9, a.c.f10]) hk10 (by omega) rfl (by simp) fun w11 h11 => ?_
  refine h11.ld (VLd.i1 (t := .bool) a.c.f11 (Rd.of_bk h11.m rfl) ?_)
  refine h11.step (flag_spec w w11 q _ a.c.f11 h11.wr) fun w13 h13 _ => ?_
  refine h13.ld (VLd.i1 (t := .int .i64) a.c.f12 (Rd.of_bk h13.m rfl) ?_)
  refine h13.step (num_spec w w13 q _ a.c.f12 h13.wr (by rw [hc]; exact hok.n12)) fun w14 h14 _ => ?_
  refine h14.ld (VLd.i3 (t := .int .u8) (u := .bool) (v := .str) a.c.f13 a.c.f14 a.c.f15 (Rd.of_bk h14.m rfl) ?_)
  refine h14.step (res_spec w w14 q _ a.c.f13 a.c.f14 a.c.f15 h14.wr (by rw [hc]; exact hok.k13)) fun w15 h15 _ => ?_
  refine VLd.i1 (t := .int .i64) a.c.f16 (Rd.of_bk h15.m rfl) (VLd.i1 (t := .int .i64) a.c.f17 (Rd.of_bk h15.m rfl) (VLd.i1 (t := .int .i64) a.c.f18 (Rd.of_bk h15.m rfl) (VLd.i1 (t := .int .i64) a.c.f19 (Rd.of_bk h15.m rfl) (VLd.i1 (t := .int .i64) a.c.f20 (Rd.of_bk h15.m rfl) ?_))))
  refine VNw.i fun b16 w16 hb16 hk16 e16 => ?_
  have q15 := h15.wr.lt
  refine (h15.ext0 e16).ints (L := [a.c.f16, a.c.f17, a.c.f18, a.c.f19, a.c.f20]) hk16 (by rw [hc]; exact hok.n16) (by omega) rfl (by simp) fun w17 h17 => ?_
  refine h17.ld (VLd.i1 (t := .bool) a.c.f21 (Rd.of_bk h17.m rfl) ?_)
  refine h17.step (flag_spec w w17 q _ a.c.f21 h17.wr) fun w19 h19 _ => ?_
  refine h19.ld (VLd.s a.e (Rd.of_bk h19.m rfl) ?_)
  have hXe : ∀ x ∈ X, i64ok x.1.1 ∧ u8ok x.1.2.1 ∧ ∀ n ∈ x.2, i64ok n := fun x hx => hok.e x.en (by rw [← h.ex]; exact List.mem_map_of_mem hx)
  have lX : (X.length : Int) = (p.E.length : Int) := by rw [← h.ex]; simp [ens]
  have fX : (X.flatMap fun x => cEn x.en) = p.E.flatMap cEn := by
    rw [← h.ex]; unfold ens
    rw [List.flatMap_map]
  refine h19.step (listE_spec w w19 q _ a.e X _ h19.wr h.es fun x hx F' W' K' h' e' k' => VDyn.i (by kernel_rfl) (Step.go (wb := W') (putE_spec x (hXe x hx) (h.es.all x hx) h' (h19.p.ext e' (by simpa using h19.wq)) h19.wq) k')) fun w20 h20 _ => ?_
  rw [lX, fX] at h20
  refine h20.ld (VLd.s a.l (Rd.of_bk h20.m rfl) (h20.ld ?_))
  refine h20.step (listI_spec w w20 q _ a.l p.L _ h20.wr h.li fun n hn F' W' K' h' e' k' => putI n (hok.l n hn) h' k') fun w21 h21 _ => ?_
  refine h21.ld (VLd.i1 (t := .str) a.c.f24 (Rd.of_bk h21.m rfl) ?_)
  refine h21.step (text_spec w w21 q _ a.c.f24 h21.wr) fun w22 h22 _ => ?_
  refine h22.ld (VLd.i1 (t := .int .i64) a.c.f25 (Rd.of_bk h22.m rfl) ?_)
  refine h22.step (num_spec w w22 q _ a.c.f25 h22.wr (by rw [hc]; exact hok.n25)) fun w23 h23 _ => ?_
  refine h23.ld (VLd.i1 (t := .bool) a.c.f26 (Rd.of_bk h23.m rfl) ?_)
  refine h23.step (flag_spec w w23 q _ a.c.f26 h23.wr) fun w24 h24 _ => ?_
  refine h24.ld (VLd.s a.p (Rd.of_bk h24.m rfl) ?_)
  refine h24.step (listP_spec w w24 q _ a.p p.P _ h24.wr h.pi fun x hx F' W' K' h' e' k' => VDyn.i (by kernel_rfl) (Step.go (wb := W') (putP_spec x h' (h24.p.ext e' (by simpa using h24.wq)) h24.wq) k')) fun w25 h25 _ => ?_
  refine h25.ld (VLd.s a.q (Rd.of_bk h25.m rfl) ?_)
  refine h25.step (listQ_spec w w25 q _ a.q p.Q _ h25.wr h.qi fun x hx F' W' K' h' e' k' => VDyn.i (by kernel_rfl) (Step.go (wb := W') (putQ_spec x (hok.qq x hx) h' (h25.p.ext e' (by simpa using h25.wq)) h25.wq) k')) fun w26 h26 _ => ?_
  refine h26.ld (VLd.i1 (t := .int .u8) a.c.f29 (Rd.of_bk h26.m rfl) ?_)
  refine h26.step (kind_spec w w26 q _ a.c.f29 h26.wr (by rw [hc]; exact hok.k29)) fun w27 h27 _ => ?_
  refine VLd.i1 (t := .int .i64) a.c.f30 (Rd.of_bk h27.m rfl) (VLd.i1 (t := .int .i64) a.c.f31 (Rd.of_bk h27.m rfl) (VLd.i1 (t := .int .i64) a.c.f32 (Rd.of_bk h27.m rfl) ?_))
  refine VNw.i fun b28 w28 hb28 hk28 e28 => ?_
  have q27 := h27.wr.lt
  refine (h27.ext0 e28).ints (L := [a.c.f30, a.c.f31, a.c.f32]) hk28 (by rw [hc]; exact hok.n30) (by omega) rfl (by simp) fun w29 h29 => ?_
  have hfin := h29.wr
  rw [hc] at hfin
  have hfin : Wr8 w w29 q (encM p) := hfin
  obtain ⟨s, l, past, hf⟩ := hfin
  have hrd := Rd.of_bk (i := 0) (vs := [.slice s.base s.len s.cap, .bool past]) hf.bk rfl
  refine h29.ld (VNN.i (VLd.i1 (t := .bool) past (hrd.fld 1 rfl) (VIf.mk (fun hp => ?_) (fun hp => ?_))))
  · have hl := hf.n2 hp
    have : encP p = (40, []) := by unfold encP; rw [if_neg hd, if_pos hl]
    rw [this]
    exact ⟨⟨none, 0, 0⟩, rfl, Own.nil _ _, hf.e⟩
  · obtain ⟨rfl, hl⟩ := hf.n1 hp
    have : encP p = (0, encM p) := by unfold encP; rw [if_neg hd, if_neg (by omega)]
    rw [this]
    exact h29.ld (VNN.i (VLd.s s (hrd.fld0 rfl) ⟨s, rfl, hf.own, hf.e⟩))
end Go.Proofs.Ytodcdfelbphajaa
