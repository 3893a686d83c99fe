/-
  Engine, part A: typed cells, environments, the predicate 'vcOps' of a region's operations, and that it is sound.
  Program-independent. No premise beyond what each theorem states.
-/
import Derived.WalkKit
import Derived.WalkSpells
import Derived.WalkLawsBesides
namespace Go.Proofs.Ytknohdgcigcmdaa
open Go.RowKit

/-- a slice's value -/
structure Sl where
  base : Option Addr
  len : Nat
  cap : Nat

/-- the kinds of one cell -/
inductive CT where
  | int (k : IntKind) | bool | str | sl | ptr | adr | mp | any

@[reducible] def CT.D : CT → Type
  | .int _ => Int | .bool => Bool | .str => ByteArray | .sl => Sl | .ptr => Option Addr | .adr => Addr | .mp => Option Nat | .any => Value

@[simp] def CT.val : (t : CT) → t.D → Value
  | .int k, (n : Int) => .int k n
  | .bool, (b : Bool) => .bool b
  | .str, (s : ByteArray) => .string s
  | .sl, (s : Sl) => .slice s.base s.len s.cap
  | .ptr, (p : Option Addr) => .pointer p
  | .adr, (a : Addr) => .pointer (some a)
  | .mp, (r : Option Nat) => .map r
  | .any, (v : Value) => v

/-- the kind of a cell, off its zero -/
def ctOf : Value → CT
  | .int k _ => .int k | .bool _ => .bool | .string _ => .str | .slice .. => .sl | .pointer _ => .ptr | .map _ => .mp | _ => .any

/-- a value's cells as a list, off its zero's shape -/
def flatCT : Value → List CT
  | .agg cs => cs.toList.map ctOf
  | .tuple vs => vs.toList.flatMap fun v => v.cells.toList.map ctOf
  | v => [ctOf v]

def rebuildAll : List Value → List Value → List Value
  | [], _ => []
  | .agg cs :: zs, vs => .agg (vs.take cs.size).toArray :: rebuildAll zs (vs.drop cs.size)
  | _ :: zs, v :: vs => v :: rebuildAll zs vs
  | _ :: _, [] => []

/-- a value of a zero's shape, off its cells -/
def rebuild : Value → List Value → Value
  | .agg _, vs => .agg vs.toArray
  | .tuple zs, vs => .tuple (rebuildAll zs.toList vs).toArray
  | _, v :: _ => v
  | _, [] => undef

def zeroOf (P : Program) (t : TypeId) : Option Value := match P.info? t with | some i => i.zero | none => none

@[reducible] def ArrP : List CT → Type
  | [] => Prop
  | t :: ts => t.D → ArrP ts
@[reducible] def ArrW : List CT → Type
  | [] => World → Prop
  | t :: ts => t.D → ArrW ts
@[reducible] def ArrN : List CT → Type
  | [] => World → Nat
  | t :: ts => t.D → ArrN ts

def exP : (ts : List CT) → (List Value → Prop) → ArrP ts → Prop
  | [], R, K => R [] ∧ K
  | t :: ts, R, K => ∃ x : t.D, exP ts (fun l => R (t.val x :: l)) (K x)
def curP : (ts : List CT) → (List Value → Prop) → ArrP ts
  | [], F => F []
  | t :: ts, F => fun x => curP ts fun l => F (t.val x :: l)
def exW : (ts : List CT) → (List Value → Prop) → ArrW ts → World → Prop
  | [], R, K, w => R [] ∧ K w
  | t :: ts, R, K, w => ∃ x : t.D, exW ts (fun l => R (t.val x :: l)) (K x) w
def curW : (ts : List CT) → (List Value → World → Prop) → ArrW ts
  | [], F => F []
  | t :: ts, F => fun x => curW ts fun l => F (t.val x :: l)

theorem exP_cur {ts : List CT} {R F : List Value → Prop} (h : exP ts R (curP ts F)) : ∃ vs, vs.length = ts.length ∧ R vs ∧ F vs := by
  induction ts generalizing R F with
  | nil => exact ⟨[], rfl, h⟩
  | cons t ts ih =>
    obtain ⟨x, hx⟩ := h
    obtain ⟨vs, hl, hr, hf⟩ := ih hx
    exact ⟨_, by simp [hl], hr, hf⟩

theorem exW_cur {ts : List CT} {R : List Value → Prop} {F : List Value → World → Prop} {w : World} (h : exW ts R (curW ts F) w) : ∃ vs, vs.length = ts.length ∧ R vs ∧ F vs w := by
  induction ts generalizing R F with
  | nil => exact ⟨[], rfl, h⟩
  | cons t ts ih =>
    obtain ⟨x, hx⟩ := h
    obtain ⟨vs, hl, hr, hf⟩ := ih hx
    exact ⟨_, by simp [hl], hr, hf⟩

/-- the cells from 'a' on hold 'vs' -/
def Rd (w : World) (a : Addr) (vs : List Value) : Prop := ∀ i v, vs[i]? = some v → w.cell? (a.add i) = some v
/-- n cells from 'a' on can be written -/
def Wr (w : World) (a : Addr) (n : Nat) : Prop := ∀ i, i < n → (∃ v, w.cell? (a.add i) = some v) ∧ w.frozen? (a.add i) = false

def setsAt (w : World) (a : Addr) : List Value → Nat → World
  | [], _ => w
  | v :: vs, i => setsAt (w.setCell (a.add i) v) a vs (i + 1)
/-- the world behind storing 'vs' from 'a' on -/
def sets (w : World) (a : Addr) (vs : List Value) : World := setsAt w a vs 0

/-- block b is new in w', and nothing else has turned -/
structure NewB (w : World) (b : Nat) (o : Obj) (w' : World) : Prop where
  at_ : b = w.heap.size
  heap : w'.heap = w.heap.push o
  os : w'.os = w.os
  tape : w'.tape = w.tape
  output : w'.output = w.output

theorem NewB.alloc (w : World) (o : Obj) : NewB w w.heap.size o (w.alloc o) := ⟨rfl, rfl, rfl, rfl, rfl⟩
theorem NewB.drew_alloc (w : World) (o : Obj) : NewB w w.heap.size o (w.drew.alloc o) := ⟨rfl, rfl, rfl, rfl, rfl⟩

def gd : Option Bool → Prop → Prop
  | none, p => p
  | some c, p => c = true → p

def VLd (g : Option Bool) (w : World) (a : Addr) (ts : List CT) (K : ArrP ts) : Prop := exP ts (fun vs => gd g (Rd w a vs)) K
def VNN (g : Option Bool) (p : Option Addr) (K : Addr → Prop) : Prop := ∃ a, gd g (p = some a) ∧ K a
def VIx (g : Option Bool) (b : Option Addr) (n : Nat) (i : Int) (K : Addr → Prop) : Prop := ∃ a, gd g (b = some a ∧ 0 ≤ i ∧ i < (n : Int)) ∧ K a
def VCk (g : Option Bool) (p : Prop) (K : Prop) : Prop := gd g p ∧ K
def VSt (g : Option Bool) (w : World) (a : Addr) (vs : List Value) (K : World → Prop) : Prop :=
  match g with
  | none => vs.all Value.oneCell' = true ∧ Wr w a vs.length ∧ ∀ w', w' = sets w a vs → K w'
  | some c => (c = true → vs.all Value.oneCell' = true ∧ Wr w a vs.length ∧ ∀ w', w' = sets w a vs → K w') ∧ (c = false → K w)
def VNw (g : Option Bool) (w : World) (o : Obj) (K : Nat → World → Prop) : Prop :=
  match g with
  | none => ∀ b w', NewB w b o w' → K b w'
  | some c => (c = true → ∀ b w', NewB w b o w' → K b w') ∧ (c = false → ∃ b, K b w)
def VCall (g : Option Bool) (P : Program) (f : FuncId) (args : Array Value) (w : World) (z : Value) (K : ArrW (flatCT z)) : Prop :=
  match g with
  | none => Calls P f args w fun e w' => exW (flatCT z) (fun vs => e = .returned (rebuild z vs)) K w'
  | some c => (c = true → Calls P f args w fun e w' => exW (flatCT z) (fun vs => e = .returned (rebuild z vs)) K w') ∧ (c = false → exW (flatCT z) (fun _ => True) K w)
def VIf (b : Bool) (p q : Prop) : Prop := (b = true → p) ∧ (b = false → q)

/-- a value forced to its head -/
def force (v : Value) (K : Value → Prop) : Prop :=
  match v with
  | .bool b => K (.bool b) | .int k n => K (.int k n) | .float k n => K (.float k n) | .complex k a b => K (.complex k a b) | .string s => K (.string s)
  | .pointer a => K (.pointer a) | .slice a n c => K (.slice a n c) | .map r => K (.map r) | .chan r => K (.chan r) | .func f a c => K (.func f a c)
  | .nilFunc => K .nilFunc | .iface t v => K (.iface t v) | .nilIface => K .nilIface | .agg c => K (.agg c) | .tuple v => K (.tuple v)
theorem force_eq (v : Value) (K : Value → Prop) : force v K = K v := by cases v <;> rfl

/-- a local number is given a name of its own -/
def VSet (n : Int) (K : Int → Prop) : Prop := ∀ m, m = n → K m
def vSet (c : Bool) (v : Value) (K : Value → Prop) : Prop :=
  match c, v with
  | false, .int k n => VSet n fun m => K (.int k m)
  | _, v => K v
theorem vSet_out {c : Bool} {v : Value} {K : Value → Prop} (h : vSet c v K) : K v := by
  cases c with
  | true => exact h
  | false => cases v <;> first | exact h | exact h _ rfl

abbrev Path := List (Nat × Bool)
abbrev Env := List (Nat × Option (Path × Value))
def Env.get : Env → Nat → Option (Path × Value)
  | [], _ => none
  | (s, e) :: r, t => match Nat.beq s t with | true => e | false => Env.get r t
def Env.put (env : Env) (d : Option Nat) (g : Path) (v : Value) : Env :=
  match d with
  | some d => (d, some (g, v)) :: env
  | none => env

/-- an operation whose answer guards others: its number, slot, path, and the answer -/
structure YE where
  j : Nat
  s : Nat
  g : Path
  b : Bool
def yfind : List YE → Nat → Option YE
  | [], _ => none
  | y :: r, j => match Nat.beq y.j j with | true => some y | false => yfind r j
def yslot : List YE → Nat → Option Nat
  | [], _ => none
  | y :: r, s => match Nat.beq y.s s with | true => some y.j | false => yslot r s

def lit (Y : List YE) (p : Nat × Bool) : Bool :=
  match yfind Y p.1 with
  | some y => (match p.2 with | true => y.b | false => !y.b)
  | none => false
def pcF (Y : List YE) (acc : Bool) : Path → Bool
  | [] => acc
  | p :: r => pcF Y (acc && lit Y p) r
def pcO (Y : List YE) : Path → Option Bool
  | [] => none
  | p :: r => some (pcF Y (lit Y p) r)
def pc (Y : List YE) (g : Path) : Bool := match pcO Y g with | none => true | some c => c

theorem pcF_eq (Y : List YE) (acc : Bool) (g : Path) : pcF Y acc g = (acc && g.all (lit Y)) := by
  induction g generalizing acc with
  | nil => simp [pcF]
  | cons p r ih => simp [pcF, ih, Bool.and_assoc]
theorem pc_eq (Y : List YE) (g : Path) : pc Y g = g.all (lit Y) := by
  cases g with
  | nil => rfl
  | cons p r => simp [pc, pcO, pcF_eq]
theorem pc_append (Y : List YE) (g h : Path) : pc Y (g ++ h) = (pc Y g && pc Y h) := by simp [pc_eq]

def prefixB : Path → Path → Bool
  | [], _ => true
  | _ :: _, [] => false
  | (i, x) :: r, (j, y) :: q => Nat.beq i j && (match x, y with | true, true => true | false, false => true | _, _ => false) && prefixB r q
theorem prefixB_spec : ∀ {g h : Path}, prefixB g h = true → ∃ r, h = g ++ r
  | [], h, _ => ⟨h, rfl⟩
  | _ :: _, [], e => by simp [prefixB] at e
  | (i, x) :: r, (j, y) :: q, e => by
    simp only [prefixB, Bool.and_eq_true] at e
    obtain ⟨⟨hij, hxy⟩, hr⟩ := e
    obtain ⟨s, rfl⟩ := prefixB_spec hr
    have : i = j := Nat.eq_of_beq_eq_true hij
    subst this
    have : x = y := by cases x <;> cases y <;> simp_all
    subst this
    exact ⟨s, rfl⟩

def Env.ev (env : Env) (g : Path) : Operand → Option Value
  | .tmp t => match env.get t with
    | some (h, v) => (match prefixB h g with | true => some v | false => none)
    | none => none
  | .const v => some v
  | .global k => some (.pointer (some ⟨k, 0, none⟩))
  | .func f => some (.func (.func f) #[] #[])

/-- a run without memory -/
def pureRun (P : Program) : Sem Next → Option Value
  | .pure (.value v) => some v
  | .program k => pureRun P (k P)
  | .mark _ k => pureRun P k
  | _ => none

theorem pureRun_value {P : Program} (s : Sem Next) (v : Value) (h : pureRun P s = some v) (w : World) : s.run P w = .ok (.value v) w := by
  induction s generalizing v with
  | pure n =>
    cases n <;> simp [pureRun] at h
    subst h; rfl
  | program k ih => exact ih P v (by simpa [pureRun] using h)
  | mark m k ih => exact ih v (by simpa [pureRun] using h)
  | _ => simp [pureRun] at h

end Go.Proofs.Ytknohdgcigcmdaa
