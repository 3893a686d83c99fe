/-
  Engine, part C: 'vcOp', case by case, and that it is sound.
-/
import Derived.Test.YtknohdgcigcmdaaEngB
namespace Go.Proofs.Ytknohdgcigcmdaa
open Go.RowKit

def vcBin (P : Program) (o : Oper) (ev : Operand → Option Value) (g : Option Bool) (w : World) (K : Value → World → Prop) (op : BinOp) (t : TypeId) (x y : Operand) : Prop :=
  match op, isConst y with
  | .quo, false => (match ev x, ev y with | some (.int k a), some (.int k' b) => (match decide (k = k') with | true => VCk g (b ≠ 0) (K (.int k (k.wrap (a.tdiv b))) w) | false => False) | _, _ => False)
  | .rem, false => (match ev x, ev y with | some (.int k a), some (.int k' b) => (match decide (k = k') with | true => VCk g (b ≠ 0) (K (.int k (a.tmod b)) w) | false => False) | _, _ => False)
  | .shl, false => (match ev x, ev y with | some (.int k a), some (.int _ b) => VCk g (0 ≤ b) (K (.int k (k.wrap (a * 2 ^ (min b.toNat k.bits)))) w) | _, _ => False)
  | .shr, false => (match ev x, ev y with | some (.int k a), some (.int _ b) => VCk g (0 ≤ b) (K (.int k (a.fdiv (2 ^ (min b.toNat k.bits)))) w) | _, _ => False)
  | .add, _ => (match isStr P t with
    | true => (match ev x, ev y with | some (.string a), some (.string b) => VCk g (a.size + b.size ≤ 9223372036854775807) (K (.string (a ++ b)) w) | _, _ => False)
    | false => vcGen P o ev w K)
  | .eql, _ => (match nilC y with
    | some c => (match ev x with | some v => (match nilV P t v c with | some b => K (.bool b) w | none => False) | none => False)
    | none => (match P.underlying t with
      | some (.struct _) => (match ev x, ev y with | some a, some b => (match structEq P t a b with | some r => K (.bool r) w | none => False) | _, _ => False)
      | some (.array _ _) => (match ev x, ev y with | some a, some b => (match structEq P t a b with | some r => K (.bool r) w | none => False) | _, _ => False)
      | _ => vcGen P o ev w K))
  | .neq, _ => (match nilC y with
    | some c => (match ev x with | some v => (match nilV P t v c with | some b => K (.bool (!b)) w | none => False) | none => False)
    | none => (match P.underlying t with
      | some (.struct _) => (match ev x, ev y with | some a, some b => (match structEq P t a b with | some r => K (.bool (!r)) w | none => False) | _, _ => False)
      | some (.array _ _) => (match ev x, ev y with | some a, some b => (match structEq P t a b with | some r => K (.bool (!r)) w | none => False) | _, _ => False)
      | _ => vcGen P o ev w K))
  | _, _ => vcGen P o ev w K

def bnd (ev : Operand → Option Value) (o : Option Operand) (d : Int) : Option Int := match o with | none => some d | some o => (match ev o with | some (.int _ n) => some n | _ => none)

def vcSlice (P : Program) (ev : Operand → Option Value) (g : Option Bool) (w : World) (K : Value → World → Prop) (t : TypeId) (x : Operand) (lo hi mx : Option Operand) : Prop :=
  match mx with
  | some m => (match hi with
    | some _ => (match sliceElem P t, ev x, bnd ev lo 0, bnd ev hi 0, bnd ev (some m) 0 with
      | some e, some (.slice b _ c), some l, some h, some mm => VCk g (0 ≤ l ∧ l ≤ h ∧ h ≤ mm ∧ mm ≤ (c : Int)) (K (.slice (cutB b mm.toNat (sizeOf? P e) l.toNat) (h.toNat - l.toNat) (mm.toNat - l.toNat)) w)
      | _, _, _, _, _ => False)
    | none => False)
  | none =>
    match sliceElem P t, ev x with
    | some e, some (.slice b n c) => (match bnd ev lo 0, bnd ev hi n with
      | some l, some h => VCk g (0 ≤ l ∧ l ≤ h ∧ h ≤ (c : Int)) (K (.slice (cutB b c (sizeOf? P e) l.toNat) (h.toNat - l.toNat) (c - l.toNat)) w)
      | _, _ => False)
    | none, some (.string s) => (match isStr P t, bnd ev lo 0, bnd ev hi s.size with
      | true, some l, some h => VCk g (0 ≤ l ∧ l ≤ h ∧ h ≤ (s.size : Int)) (K (.string (s.extract l.toNat h.toNat)) w)
      | _, _, _ => False)
    | _, _ => False

def vcCall (P : Program) (o : Oper) (ev : Operand → Option Value) (g : Option Bool) (w : World) (K : Value → World → Prop) (c : Call) : Prop :=
  match c.callee with
  | .value f => (match isFuncOp f with
    | true => (match ev f, allEv ev c.args.toList, zeroOf P o.type with
      | some (.func (.func n) fst cap), some args, some z => (match callee P n with
        | true => VCall g P n (fst ++ args.toArray ++ cap) w z (curW (flatCT z) fun vs w' => K (rebuild z vs) w')
        | false => (match externOf P n with
          | some e => VRun g P (e (fst ++ args.toArray ++ cap)) w z (curW (flatCT z) fun vs w' => K (rebuild z vs) w')
          | none => False))
      | _, _, _ => False)
    | false => (match ev f, allEv ev c.args.toList, zeroOf P o.type with
      | some v, some args, some z => VDyn g P v args.toArray w z (curW (flatCT z) fun vs w' => K (rebuild z vs) w')
      | _, _, _ => False))
  | .builtin .append => (match c.argTypes.toList, allEv ev c.args.toList with
    | [t, u], some [.slice b n cp, x] => (match sliceElem P t with
      | some e => (match zeroOf P e, Nat.blt 0 (sizeOf? P e) with
        | some z, true => (match sizeIs P e z.cells.size with
          | true => (match x, sliceElem P u, isStr P u with
            | .slice b' m _, some _, _ => VApp g w e (sizeOf? P e) (bytesOf? P e) z.cells b n cp m (fun news => Seg w b' m (sizeOf? P e) news) fun s w' => K (.slice s.base s.len s.cap) w'
            | .string s, none, true => (match sizeIs P e 1 with | true => VApp g w e (sizeOf? P e) (bytesOf? P e) z.cells b n cp s.size (fun news => news = strCells s) (fun s w' => K (.slice s.base s.len s.cap) w') | false => False)
            | .int .i64 l, none, false => (match isInt P u with | true => VApp g w e (sizeOf? P e) (bytesOf? P e) z.cells b n cp l.toNat (fun news => 0 ≤ l ∧ l ≤ 9223372036854775807 ∧ news = (Builtin.zeroCells z.cells l.toNat).toList) (fun s w' => K (.slice s.base s.len s.cap) w') | false => False)
            | _, _, _ => False)
          | false => False)
        | _, _ => False)
      | none => False)
    | _, _ => False)
  | .builtin .copy => (match c.argTypes.toList, allEv ev c.args.toList with
    | [t, u], some [.slice b n _, x] => (match sliceElem P t with
      | some e => (match x, sliceElem P u with
        | .string s, none => (match isStr P u && sizeIs P e 1 with
          | true => VCopy g w (sizeOf? P e) b n s.size (fun news => news = (strCells s).take (Nat.min s.size n)) fun w' => K (.int .i64 (Nat.min s.size n : Nat)) w'
          | false => False)
        | .slice b' m _, some _ => VCopy g w (sizeOf? P e) b n m (fun news => Seg w b' (Nat.min m n) (sizeOf? P e) news) fun w' => K (.int .i64 (Nat.min m n : Nat)) w'
        | _, _ => False)
      | none => False)
    | _, _ => False)
  | .builtin .len => (match c.argTypes.toList, allEv ev c.args.toList, zeroOf P o.type with
    | [t], some [x], some z => (match isMap P t with
      | true => VRun g P (Builtin.len_ #[t] o.type #[x]) w z (curW (flatCT z) fun vs w' => K (rebuild z vs) w')
      | false => vcGen P o ev w K)
    | _, _, _ => vcGen P o ev w K)
  | .builtin .delete => (match c.argTypes.toList, allEv ev c.args.toList, zeroOf P o.type with
    | ts, some xs, some z => VRun g P (Builtin.delete_ ts.toArray o.type xs.toArray) w z (curW (flatCT z) fun vs w' => K (rebuild z vs) w')
    | _, _, _ => False)
  | .builtin .clear => (match c.argTypes.toList, allEv ev c.args.toList, zeroOf P o.type with
    | ts, some xs, some z => VRun g P (Builtin.clear_ ts.toArray o.type xs.toArray) w z (curW (flatCT z) fun vs w' => K (rebuild z vs) w')
    | _, _, _ => False)
  | .builtin .cap => vcGen P o ev w K
  | .builtin .min => vcGen P o ev w K
  | .builtin .max => vcGen P o ev w K
  | _ => False

def vcConv (P : Program) (o : Oper) (ev : Operand → Option Value) (g : Option Bool) (w : World) (K : Value → World → Prop) (src dst : TypeId) (x : Operand) : Prop :=
  match isStr P dst, sliceElem P src, isStr P src, sliceElem P dst with
  | true, some e, _, _ => (match P.underlying e, ev x with | some (.int .u8), some (.slice b n _) => VStr g w b n fun s => K (.string s) w | _, _ => False)
  | _, _, true, some e => (match P.underlying e, ev x with | some (.int .u8), some (.string s) => VBytes g w e s (fun b c w' => K (.slice (some ⟨b, 0, none⟩) s.size c) w') | _, _ => False)
  | false, some e, false, some _ => (match Nat.beq src dst, P.underlying e, ev x with | true, some (.int .u8), some (.slice (some a) n c) => VMark g w a fun w' => K (.slice (some a) n c) w' | _, _, _ => False)
  | _, _, _, _ => vcGen P o ev w K

def vcOp (P : Program) (o : Oper) (ev : Operand → Option Value) (g : Option Bool) (w : World) (K : Value → World → Prop) : Prop :=
  match o.op with
  | .nilCheck x => (match ev x with
    | some (.pointer p) => VNN g p fun a => K (.pointer (some a)) w
    | _ => False)
  | .load t x => (match loadable P t, ev x, zeroOf P t with
    | true, some (.pointer p), some z => onPtr p fun a => VLd g w a (flatCT z) (curP (flatCT z) fun vs => K (rebuild z vs) w)
    | _, _, _ => False)
  | .store t x y => (match ev x, ev y with
    | some (.pointer p), some v => (match sizeIs P t v.cells.size with
      | true => onPtr p fun a => VSt g w a v.cells.toList fun w' => K undef w'
      | false => False)
    | _, _ => False)
  | .indexAddr t x i => (match sliceElem P t, ev x, ev i with
    | some e, some (.slice b n _), some (.int _ j) => VIx g b n j fun a => K (.pointer (some (a.add (j.toNat * sizeOf? P e)))) w
    | _, _, _ => False)
  | .index t x i => (match isStr P t, ev x, ev i with
    | true, some (.string s), some (.int _ j) => VCk g (0 ≤ j ∧ j < (s.size : Int)) (K (.int .u8 (strAt s j.toNat)) w)
    | false, some (.agg cs), some (.int _ j) => (match arrElem P t with
      | some n => (match Nat.beq cs.size n with
        | true => VCk g (0 ≤ j ∧ j < (n : Int)) (K (cs.getD j.toNat undef) w)
        | false => False)
      | none => False)
    | _, _, _ => False)
  | .slice t x lo hi mx => vcSlice P ev g w K t x lo hi mx
  | .makeSlice t l c => (match sliceElem P t, ev l, ev c with
    | some e, some (.int .i64 l), some (.int .i64 c) => (match zeroOf P e, Nat.blt 0 (sizeOf? P e) with
      | some z, true => VMk g w e (sizeOf? P e) (bytesOf? P e) z.cells l c fun b w' => K (.slice (some ⟨b, 0, none⟩) l.toNat c.toNat) w'
      | _, _ => False)
    | _, _, _ => False)
  | .binOp op t x y _ => vcBin P o ev g w K op t x y
  | .convert src dst x => vcConv P o ev g w K src dst x
  | .call c => vcCall P o ev g w K c
  | .alloc _ => vcNew P o ev g w K
  | .box _ _ => vcNew P o ev g w K
  | .buildSlice _ _ _ => vcNew P o ev g w K
  | .makeMap _ none => vcNew P o ev g w K
  | .move x => (match ev x with | some v => K v w | none => False)
  | .assign x => (match ev x with | some v => vSet (isConst x) v fun v => K v w | none => False)
  | .lookup t x i ok => (match ev x, ev i, zeroOf P o.type with
    | some m, some k, some z => VRun g P (Instr.lookup t m k ok) w z (curW (flatCT z) fun vs w' => K (rebuild z vs) w')
    | _, _, _ => False)
  | .mapEntry t x i => (match ev x, ev i, mapElem P t with
    | some m, some k, some z => VRun g P (Instr.mapEntry t m k) w (.tuple #[z, .int .i64 0]) (curW (flatCT (.tuple #[z, .int .i64 0])) fun vs w' => K (rebuild (.tuple #[z, .int .i64 0]) vs) w')
    | _, _, _ => False)
  | .mapUpdate t x i y => (match ev x, ev i, ev y with
    | some m, some k, some v => VRunU g P (Instr.mapUpdate t m k v) w fun w' => K undef w'
    | _, _, _ => False)
  | .insert t x i y => (match ev x, ev i, ev y with
    | some m, some k, some v => VRunU g P (Instr.mapUpdate t m k v) w fun w' => K undef w'
    | _, _, _ => False)
  | .entryStore t x i y => (match ev x, ev i, ev y with
    | some m, some k, some v => VRunU g P (Instr.entryStore t m k v) w fun w' => K undef w'
    | _, _, _ => False)
  | .unOp _ _ _ => vcGen P o ev w K
  | .fieldAddr _ x _ => (match ev x with
    | some (.pointer p) => onPtr p fun a => (match pureRun P (execOp (fun _ => .pointer (some a)) o) with
      | some v => force v fun v => K v w
      | none => False)
    | _ => False)
  | .field _ _ _ => vcGen P o ev w K
  | .build _ _ => vcGen P o ev w K
  | .extract _ _ => vcGen P o ev w K
  | .makeFunc _ _ _ => vcGen P o ev w K
  | _ => False

end Go.Proofs.Ytknohdgcigcmdaa
