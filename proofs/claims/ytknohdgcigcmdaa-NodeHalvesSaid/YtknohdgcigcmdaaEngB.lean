/-
  Engine, part B: what one operation asks ('vcOp'), and that it is sound.
-/
import Derived.Test.YtknohdgcigcmdaaEngA
namespace Go.Proofs.Ytknohdgcigcmdaa
open Go.RowKit

/-- a run that makes at most one block -/
def newRun (P : Program) : Sem Next → Option (Obj × (Nat → Option Value))
  | .new o k => some (o, fun r => pureRun P (k r))
  | .program k => newRun P (k P)
  | .mark _ k => newRun P k
  | _ => none

theorem newRun_run {P : Program} (s : Sem Next) (o : Obj) (f : Nat → Option Value) (h : newRun P s = some (o, f)) (w : World) (v : Value) (hv : f w.heap.size = some v) :
    s.run P w = .ok (.value v) (w.alloc o) := by
  induction s with
  | new o' k =>
    simp only [newRun, Option.some.injEq, Prod.mk.injEq] at h
    obtain ⟨rfl, rfl⟩ := h
    exact pureRun_value (k w.heap.size) v hv (w.alloc o')
  | program k ih => exact ih P (by simpa [newRun] using h)
  | mark m k ih => exact ih (by simpa [newRun] using h)
  | _ => simp [newRun] at h

/-- the place of the i-th byte -/
def strAt (s : ByteArray) (n : Nat) : Int := ((s.data.toList.getD n 0).toNat : Int)
def cutB (b : Option Addr) (cap size l : Nat) : Option Addr := if cap = l then b else b.map (·.add (l * size))
/-- the bytes of a text as cells -/
def strCells (s : ByteArray) : List Value := s.data.toList.map fun b => .int .u8 b.toNat

def bAnd (k : IntKind) (x y : Int) : Int := k.wrap ((BitVec.ofInt k.bits x &&& BitVec.ofInt k.bits y).toNat : Int)
def bOr (k : IntKind) (x y : Int) : Int := k.wrap ((BitVec.ofInt k.bits x ||| BitVec.ofInt k.bits y).toNat : Int)
def bXor (k : IntKind) (x y : Int) : Int := k.wrap ((BitVec.ofInt k.bits x ^^^ BitVec.ofInt k.bits y).toNat : Int)
def bAndNot (k : IntKind) (x y : Int) : Int := k.wrap ((BitVec.ofInt k.bits x &&& ~~~BitVec.ofInt k.bits y).toNat : Int)

def loadable (P : Program) (t : TypeId) : Bool :=
  match P.underlying t, P.info? t with
  | some d, some i => (match i.zero, d with
    | some (.agg cs), .struct _ => Nat.beq i.size cs.size
    | some (.agg cs), .array _ _ => Nat.beq i.size cs.size
    | some (.agg _), _ => false
    | some (.tuple _), _ => false
    | some _, .struct _ => false
    | some _, .array _ _ => false
    | some _, _ => true
    | none, _ => false)
  | _, _ => false

def sizeIs (P : Program) (t : TypeId) (n : Nat) : Bool := match P.info? t with | some i => Nat.beq i.size n | none => false
def sizeOf? (P : Program) (t : TypeId) : Nat := match P.info? t with | some i => i.size | none => 0
def bytesOf? (P : Program) (t : TypeId) : Nat := match P.info? t with | some i => i.bytes | none => 0
def sliceElem (P : Program) (t : TypeId) : Option TypeId := match P.underlying t with | some (.slice e) => (match P.info? e with | some _ => some e | none => none) | _ => none
def isStr (P : Program) (t : TypeId) : Bool := match P.underlying t with | some .string => true | _ => false
def isInt (P : Program) (t : TypeId) : Bool := match P.underlying t with | some (.int _) => true | _ => false

/-- 'the slice reads as these cells' -/
def Seg (w : World) (base : Option Addr) (n size : Nat) (xs : List Value) : Prop :=
  xs.length = n * size ∧ (n = 0 ∨ ∃ a, base = some a ∧ Rd w a xs)

def VAppC (w : World) (e : TypeId) (size bytes : Nat) (zc : Array Value) (base : Option Addr) (n cap : Nat) (m : Nat) (src : List Value → Prop) (K : Sl → World → Prop) : Prop :=
  ∃ news : List Value, src news ∧ news.length = m * size ∧ (n + m) * bytes ≤ 140737488355328 ∧ n + m ≤ 9223372036854775807 ∧
      (n + m ≤ cap → (m = 0 ∧ ∀ w', w' = w → K ⟨base, n, cap⟩ w') ∨ (∃ a, base = some a ∧ news.all Value.oneCell' = true ∧ Wr w (a.add (n * size)) news.length ∧ ∀ w', w' = sets w (a.add (n * size)) news → K ⟨base, n + m, cap⟩ w')) ∧
      (cap < n + m → ∃ old, Seg w base n size old ∧ ∀ b c w', n + m ≤ c → c ≤ 9223372036854775807 → NewB w b (.cells (old.toArray ++ news.toArray ++ Builtin.zeroCells zc (c - (n + m))) e) w' → K ⟨some ⟨b, 0, none⟩, n + m, c⟩ w')
def VApp (g : Option Bool) (w : World) (e : TypeId) (size bytes : Nat) (zc : Array Value) (base : Option Addr) (n cap : Nat) (m : Nat) (src : List Value → Prop) (K : Sl → World → Prop) : Prop :=
  match g with
  | none => VAppC w e size bytes zc base n cap m src K
  | some c => (c = true → VAppC w e size bytes zc base n cap m src K) ∧ (c = false → ∃ s, K s w)

def VCopyC (w : World) (size : Nat) (base : Option Addr) (n : Nat) (m : Nat) (src : List Value → Prop) (K : World → Prop) : Prop :=
  ∃ news : List Value, src news ∧ news.length = (Nat.min m n) * size ∧
      ((Nat.min m n = 0 ∧ ∀ w', w' = w → K w') ∨ (∃ a, base = some a ∧ news.all Value.oneCell' = true ∧ Wr w a news.length ∧ ∀ w', w' = sets w a news → K w'))
def VCopy (g : Option Bool) (w : World) (size : Nat) (base : Option Addr) (n : Nat) (m : Nat) (src : List Value → Prop) (K : World → Prop) : Prop :=
  match g with
  | none => VCopyC w size base n m src K
  | some c => (c = true → VCopyC w size base n m src K) ∧ (c = false → K w)

def VMkC (w : World) (e : TypeId) (size bytes : Nat) (zc : Array Value) (l c : Int) (K : Nat → World → Prop) : Prop :=
  0 ≤ l ∧ l ≤ c ∧ c * bytes ≤ 140737488355328 ∧ c ≤ 9223372036854775807 ∧ ∀ b w', NewB w b (.cells (madeCells zc (c.toNat * size)) e) w' → K b w'
def VMk (g : Option Bool) (w : World) (e : TypeId) (size bytes : Nat) (zc : Array Value) (l c : Int) (K : Nat → World → Prop) : Prop :=
  match g with
  | none => VMkC w e size bytes zc l c K
  | some q => (q = true → VMkC w e size bytes zc l c K) ∧ (q = false → ∃ b, K b w)

/-- a row of bytes of a constant text: its end is marked -/
def markW (w : World) (a : Addr) : World := match w.shape? a.block with | some (_, n) => w.freeze ⟨a.block, n, none⟩ 1 | none => w
def VMark (g : Option Bool) (w : World) (a : Addr) (K : World → Prop) : Prop :=
  match g with
  | none => ∀ w', w' = markW w a → K w'
  | some c => (c = true → ∀ w', w' = markW w a → K w') ∧ (c = false → K w)

def VStr (g : Option Bool) (w : World) (base : Option Addr) (n : Nat) (K : ByteArray → Prop) : Prop :=
  ∃ s : ByteArray, gd g (Seg w base n 1 (strCells s)) ∧ K s

def VBytesC (w : World) (e : TypeId) (s : ByteArray) (K : Nat → Nat → World → Prop) : Prop :=
  ∀ b c w', s.size ≤ c → NewB w b (.cells ((strCells s).toArray ++ Array.replicate (c - s.size) (.int .u8 0)) e (c, c + 1)) w' → K b c w'
def VBytes (g : Option Bool) (w : World) (e : TypeId) (s : ByteArray) (K : Nat → Nat → World → Prop) : Prop :=
  match g with
  | none => VBytesC w e s K
  | some q => (q = true → VBytesC w e s K) ∧ (q = false → ∃ b c, K b c w)

/-- two cells of a plain kind, of type t: the same? -/
def cellEq (P : Program) (t : TypeId) (x y : Value) : Option Bool :=
  match P.underlying t, x, y with
  | some (.int _), .int k a, .int k' b => (match decide (k = k') with | true => some (a == b) | false => none)
  | some .bool, .bool a, .bool b => some (a == b)
  | some .string, .string a, .string b => some (a.toList == b.toList)
  | _, _, _ => none
/-- two structs of plain one-cell fields, none of them blank -/
def fieldsEq (P : Program) : Nat → List Field → List Value → List Value → Option Bool
  | _, [], [], [] => some true
  | n, f :: fs, x :: xs, y :: ys => (match Nat.beq f.offset n && !(f.name == "_") with
    | true => (match cellEq P f.type x y, fs with
      | some r, [] => (match xs, ys with | [], [] => some r | _, _ => none)
      | some r, _ :: _ => (match fieldsEq P (n + 1) fs xs ys with | some r' => some (r && r') | none => none)
      | none, _ => none)
    | false => none)
  | _, _, _, _ => none
/-- what stands at the head of two rows of cells, of type t of k cells: the same? -/
def partEq (P : Program) (t : TypeId) (k : Nat) (xs ys : List Value) : Option Bool :=
  match P.underlying t with
  | some (.struct fs) => (match !P.stoodInHeld t with
    | true => fieldsEq P 0 fs.toList (xs.take k) (ys.take k)
    | false => none)
  | _ => (match Nat.beq k 1, xs, ys with
    | true, x :: _, y :: _ => cellEq P t x y
    | _, _, _ => none)
/-- two structs of plain fields, or of such structs -/
def fieldsEq2 (P : Program) : Nat → List Field → List Value → List Value → Option Bool
  | _, [], [], [] => some true
  | n, f :: fs, xs, ys => (match Nat.beq f.offset n && !(f.name == "_") with
    | true => (match partEq P f.type (P.cellsOf f.type) xs ys, fs with
      | some r, [] => (match xs.drop (P.cellsOf f.type), ys.drop (P.cellsOf f.type) with | [], [] => some r | _, _ => none)
      | some r, _ :: _ => (match fieldsEq2 P (n + P.cellsOf f.type) fs (xs.drop (P.cellsOf f.type)) (ys.drop (P.cellsOf f.type)) with | some r' => some (r && r') | none => none)
      | none, _ => none)
    | false => none)
  | _, _, _, _ => none
/-- two arrays of plain cells -/
def arrEq (P : Program) (e : TypeId) : Nat → List Value → List Value → Option Bool
  | 0, _, _ => some true
  | 1, x :: _, y :: _ => cellEq P e x y
  | n + 1, x :: xs, y :: ys => (match cellEq P e x y, arrEq P e n xs ys with | some r, some r' => some (r && r') | _, _ => none)
  | _, _, _ => none
def structEq (P : Program) (t : TypeId) (x y : Value) : Option Bool :=
  match P.underlying t, x, y with
  | some (.array n e), .agg xs, .agg ys => (match Nat.beq (P.cellsOf e) 1 && !P.eqGuardType P.depth t, P.info? e with
    | true, some _ => arrEq P e n xs.toList ys.toList
    | _, _ => none)
  | some (.struct fs), .agg xs, .agg ys => (match !P.stoodInHeld t && !P.eqGuardType P.depth t with
    | true => fieldsEq2 P 0 fs.toList xs.toList ys.toList
    | false => none)
  | _, _, _ => none

/-- may it be called by number: it has a body -/
def callee (P : Program) (f : FuncId) : Bool :=
  match P.funcs[f]? with
  | some fn => fn.body.isSome && !(fn.name == "runtime.NumGoroutine")
  | none => false

/-- a function without a body, that the model has an entry for -/
def externOf (P : Program) (f : FuncId) : Option (Array Value → Sem Value) :=
  match P.funcs[f]? with
  | some fn => (match fn.body.isNone && !(fn.name == "runtime.NumGoroutine") && (Extern.findNext fn).isNone with | true => Extern.find fn | false => none)
  | none => none

/-- a call of a function value -/
def VDynC (P : Program) (v : Value) (args : Array Value) (w : World) (z : Value) (K : ArrW (flatCT z)) : Prop :=
  ∃ n fst cap, v = .func (.func n) fst cap ∧ callee P n = true ∧ VCall none P n (fst ++ args ++ cap) w z K
def VDyn (g : Option Bool) (P : Program) (v : Value) (args : Array Value) (w : World) (z : Value) (K : ArrW (flatCT z)) : Prop :=
  match g with
  | none => VDynC P v args w z K
  | some c => (c = true → VDynC P v args w z K) ∧ (c = false → exW (flatCT z) (fun _ => True) K w)
/-- any run that gives a value: what it gives is to be said -/
def VRunC (P : Program) (s : Sem Value) (w : World) (z : Value) (K : ArrW (flatCT z)) : Prop := ∃ v w', s.run P w = .ok v w' ∧ exW (flatCT z) (fun vs => v = rebuild z vs) K w'
def VRun (g : Option Bool) (P : Program) (s : Sem Value) (w : World) (z : Value) (K : ArrW (flatCT z)) : Prop :=
  match g with
  | none => VRunC P s w z K
  | some c => (c = true → VRunC P s w z K) ∧ (c = false → exW (flatCT z) (fun _ => True) K w)
/-- .. that gives nothing -/
def VRunU (g : Option Bool) (P : Program) (s : Sem Unit) (w : World) (K : World → Prop) : Prop :=
  match g with
  | none => ∃ w', s.run P w = .ok () w' ∧ K w'
  | some c => (c = true → ∃ w', s.run P w = .ok () w' ∧ K w') ∧ (c = false → K w)
/-- the zero of a map's elements -/
def mapElem (P : Program) (t : TypeId) : Option Value := match P.underlying t with | some (.map _ e) => zeroOf P e | _ => none
def isMap (P : Program) (t : TypeId) : Bool := match P.underlying t with | some (.map _ _) => true | _ => false
/-- the elements of an array's type: how many, of one cell each -/
def arrElem (P : Program) (t : TypeId) : Option Nat :=
  match P.underlying t with
  | some (.array n e) => (match sizeIs P e 1, P.underlying e with
    | true, some (.struct _) => none
    | true, some (.array _ _) => none
    | true, some _ => some n
    | _, _ => none)
  | _ => none
def isFuncOp : Operand → Bool
  | .func _ => true
  | _ => false
def known (ev : Operand → Option Value) (o : Op) : Bool := o.operands.toList.all fun x => (ev x).isSome
def allEv (ev : Operand → Option Value) : List Operand → Option (List Value)
  | [] => some []
  | x :: r => match ev x, allEv ev r with | some v, some vs => some (v :: vs) | _, _ => none
def evd (ev : Operand → Option Value) (x : Operand) : Value := (ev x).getD undef
def nilC : Operand → Option Value
  | .const (.pointer none) => some (.pointer none)
  | .const (.slice none 0 0) => some (.slice none 0 0)
  | .const (.map none) => some (.map none)
  | _ => none
def isConst : Operand → Bool
  | .const _ => true
  | _ => false
/-- held against the literal nil 'c' -/
def nilV (P : Program) (t : TypeId) (v c : Value) : Option Bool :=
  match P.underlying t, v, c with
  | some (.pointer _), .pointer p, .pointer none => some p.isNone
  | some (.slice _), .slice b _ _, .slice none 0 0 => some b.isNone
  | some (.map _ _), .map r, .map none => some r.isNone
  | _, _, _ => none

/-- through a pointer that must not be nil -/
def onPtr (p : Option Addr) (K : Addr → Prop) : Prop :=
  match p with
  | some a => K a
  | none => False
theorem onPtr_out {p : Option Addr} {K : Addr → Prop} (h : onPtr p K) : ∃ a, p = some a ∧ K a := by
  cases p with
  | none => exact h.elim
  | some a => exact ⟨a, rfl, h⟩
theorem onPtr.i {a : Addr} {K : Addr → Prop} (k : K a) : onPtr (some a) K := k
/-- any other operation: computes, or makes one block -/
def vcGen (P : Program) (o : Oper) (ev : Operand → Option Value) (w : World) (K : Value → World → Prop) : Prop :=
  match known ev o.op with
  | true => (match pureRun P (execOp (evd ev) o) with
    | some v => force v fun v => K v w
    | none => False)
  | false => False
def vcNew (P : Program) (o : Oper) (ev : Operand → Option Value) (g : Option Bool) (w : World) (K : Value → World → Prop) : Prop :=
  match known ev o.op with
  | true => (match newRun P (execOp (evd ev) o) with
    | some (ob, f) => VNw g w ob fun b w' => (match f b with | some v => force v fun v => K v w' | none => False)
    | none => False)
  | false => False

end Go.Proofs.Ytknohdgcigcmdaa
