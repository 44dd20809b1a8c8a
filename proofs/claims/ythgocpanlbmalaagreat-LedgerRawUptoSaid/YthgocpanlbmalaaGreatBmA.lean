import Derived.Calls
import Derived.Orders
import Derived.Below
import Derived.Laws.Sem
import Derived.Laws.World
import Derived.Laws.Cells
import Derived.Laws.CopyRow
import Derived.Laws.AppendOwn
import Derived.Laws.FloatArith
set_option linter.unusedVariables false
set_option linter.unusedSimpArgs false
/- An abstract machine by value, with boxes of its own: values, states and the run of one operation. -/
namespace Go.Bm
inductive T where
 | s (v : Value)
 | f (x : Option Nat)
 | sl (xs : List (List T))
 deriving Inhabited
inductive M where
 | any
 | t (x : T)
 | agg (cs : List M)
 | tight (xs : List (List T))
 | cp (cs : List T)
 | clo (f : FuncId) (cs : List M)
 | tup (vs : List M)
 | own (id z : Nat) (xs : List (List T))
 | ptr (k off : Nat)
 | pe (k i off : Nat)
 | sb (k z lo n : Nat)
 | mp (k : Nat)
 | os (cs : List M)
 | oa (hs : List Nat) (z : Nat) (xs : List (List M))
 | op (z : Nat) (xs : List (List T))
 | om (hs : List Nat) (es : List (Value × M))
 deriving Inhabited
structure St where
 n : Nat
 sg : List (Nat × M)
 bx : List (Nat × M)
inductive Oc where
 | ret (r : M)
 | pan (v : Value)
 deriving Inhabited
inductive Bk where
 | same
 | gone
 | is (m : M)
 deriving Inhabited
def CB : Nat := 1000000
def RB : Nat := 2000000
def idx (k : Nat) : List Nat → Nat → Option Nat
 | [], _ => none
 | x :: r, i => bif Nat.beq x k then some i else idx k r (i + 1)
def nameOf (bs : List Bk) (i : Nat) : Nat :=
 match bs[i]? with
 | some .same => RB + i
 | _ => CB + i
inductive O where
 | ret (oc : Oc) (L : List Nat) (bs : List Bk) (base : Nat)
 | bor (oc : Oc) (L : List Nat) (as : List M)
 | cells (cs : List M)
 | cellsT (cs : List T)
 | bit (b : Bool)
 | mut
def look : List (Nat × M) → Nat → M
 | [], _ => .any
 | (j, m) :: r, t => bif Nat.beq j t then m else look r t
def lookB : List (Nat × M) → Nat → Option M
 | [], _ => none
 | (j, c) :: r, t => bif Nat.beq j t then some c else lookB r t
def ofConst : Value → Option M
 | .agg _ => none
 | .tuple _ => none
 | .slice (some _) _ _ => none
 | .slice none 0 0 => some (.tight [])
 | .slice none _ _ => none
 | .float .f64 b => some (.t (.f (some b)))
 | .float .f32 _ => none
 | v => some (.t (.s v))
def ofConsts : List Value → Option (List M)
 | [] => some []
 | v :: r => match ofConst v, ofConsts r with
  | some m, some ms => some (m :: ms)
  | _, _ => none
def ev (sg : List (Nat × M)) : Operand → Option M
 | .tmp t => some (look sg t)
 | .const v => ofConst v
 | .func f => some (.clo f [])
 | .global _ => none
def evs (sg : List (Nat × M)) : List Operand → Option (List M)
 | [] => some []
 | x :: r => match ev sg x, evs sg r with
  | some m, some ms => some (m :: ms)
  | _, _ => none
def closeT : M → Option T
 | .t x => some x
 | .tight xs => some (.sl xs)
 | .own _ _ xs => some (.sl xs)
 | _ => none
def closeTs : List M → Option (List T)
 | [] => some []
 | m :: r => match closeT m, closeTs r with
  | some x, some xs => some (x :: xs)
  | _, _ => none
def isOwned : M → Bool
 | .os _ => true
 | .oa _ _ _ => true
 | .op _ _ => true
 | .om _ _ => true
 | _ => false
def isCell : M → Bool
 | .any => false
 | .agg _ => false
 | .tup _ => false
 | .os _ => false
 | .oa _ _ _ => false
 | .op _ _ => false
 | .om _ _ => false
 | _ => true
def allCell : List M → Bool
 | [] => true
 | m :: r => isCell m && allCell r
def cellsM : M → Option (List M)
 | .agg cs => bif allCell cs then some cs else none
 | m => bif isCell m then some [m] else none
def isAggB (P : Program) (t : TypeId) : Option Bool :=
 match P.underlying t with
 | some (.struct _) => some true
 | some (.array _ _) => some true
 | some _ => some false
 | none => none
def szOf (P : Program) (t : TypeId) : Option Nat :=
 match P.info? t with
 | some i => some i.size
 | none => none
def placesOf (P : Program) (t : TypeId) : Option (List (Nat × Nat)) :=
 match P.underlying t with
 | some (.struct fs) => fs.toList.mapM fun f => (P.info? f.type).map fun i => (f.offset, i.size)
 | _ => none
def mk (P : Program) (t : TypeId) (cs : List M) : Option M :=
 match isAggB P t, cs with
 | some true, cs => some (.agg cs)
 | some false, [c] => some c
 | _, _ => none
def cut (cs : List M) (off n : Nat) : Option (List M) :=
 let r := (cs.drop off).take n
 bif Nat.beq r.length n then some r else none
def fieldsOf (P : Program) (t : TypeId) : Option (List Field) :=
 match P.underlying t with
 | some (.struct fs) => some fs.toList
 | _ => none
def elemOf (P : Program) (t : TypeId) : Option TypeId :=
 match P.underlying t with
 | some (.slice e) => some e
 | _ => none
def zeroM (P : Program) (t : TypeId) : Option (List M) :=
 match P.info? t with
 | some i => match i.zero with
  | some v => ofConsts v.cells.toList
  | none => none
 | none => none
def fieldAt (P : Program) (t : TypeId) (i : Nat) : Option (Nat × Nat × TypeId) :=
 match fieldsOf P t with
 | some fs => match fs[i]? with
  | some f => match szOf P f.type with
   | some n => some (f.offset, n, f.type)
   | none => none
  | none => none
 | none => none
def lay (cs : List M) (off : Nat) (ds : List M) : Option (List M) :=
 bif Nat.ble (off + ds.length) cs.length then some (cs.take off ++ ds ++ cs.drop (off + ds.length)) else none
def fillM (places : List (Nat × Nat)) (sg : List (Nat × M)) : List (Nat × Operand) → List M → Option (List M)
 | [], cs => some cs
 | (i, x) :: r, cs =>
  match places[i]?, ev sg x with
  | some (off, n), some m => match cellsM m with
   | some ds => bif Nat.beq ds.length n then
     match lay cs off ds with
     | some cs' => fillM places sg r cs'
     | none => none
    else none
   | none => none
  | _, _ => none
def slOf : M → Option (List (List T))
 | .t (.sl xs) => some xs
 | .tight xs => some xs
 | .own _ _ xs => some xs
 | _ => none
def fo (x y : Option Nat) : Option Ordering :=
 match x, y with
 | some a, some b => FloatKind.f64.format.order a b
 | _, _ => none
def fa (op : Nat → Nat → Option Nat) (x y : Option Nat) : Option Nat :=
 match x, y with
 | some a, some b => op a b
 | _, _ => none
def binF (op : BinOp) (x y : Option Nat) : Option T :=
 match op with
 | .add => some (.f (fa FloatKind.f64.format.add x y))
 | .sub => some (.f (fa FloatKind.f64.format.sub x y))
 | .mul => some (.f (fa FloatKind.f64.format.mul x y))
 | .quo => some (.f (fa FloatKind.f64.format.div x y))
 | .eql => some (.s (.bool (fo x y == some .eq)))
 | .neq => some (.s (.bool (fo x y != some .eq)))
 | .lss => some (.s (.bool (fo x y == some .lt)))
 | .leq => some (.s (.bool (fo x y == some .lt || fo x y == some .eq)))
 | .gtr => some (.s (.bool (fo x y == some .gt)))
 | .geq => some (.s (.bool (fo x y == some .gt || fo x y == some .eq)))
 | _ => none
def binI (op : BinOp) (k : IntKind) (x y : Int) : Option (Value × List Prop) :=
 match op with
 | .add => some (.int k (k.wrap (x + y)), [])
 | .sub => some (.int k (k.wrap (x - y)), [])
 | .mul => some (.int k (k.wrap (x * y)), [])
 | .quo => some (.int k (k.wrap (x.tdiv y)), [y ≠ 0])
 | .rem => some (.int k (x.tmod y), [y ≠ 0])
 | .and => some (.int k (k.wrap (BitVec.ofInt k.bits x &&& BitVec.ofInt k.bits y).toNat), [])
 | .or => some (.int k (k.wrap (BitVec.ofInt k.bits x ||| BitVec.ofInt k.bits y).toNat), [])
 | .xor => some (.int k (k.wrap (BitVec.ofInt k.bits x ^^^ BitVec.ofInt k.bits y).toNat), [])
 | .andNot => some (.int k (k.wrap (BitVec.ofInt k.bits x &&& ~~~ BitVec.ofInt k.bits y).toNat), [])
 | .eql => some (.bool (x == y), [])
 | .neq => some (.bool (x != y), [])
 | .lss => some (.bool (x < y), [])
 | .leq => some (.bool (x ≤ y), [])
 | .gtr => some (.bool (x > y), [])
 | .geq => some (.bool (x ≥ y), [])
 | _ => none
def kindEq : IntKind → IntKind → Bool
 | .i8, .i8 | .i16, .i16 | .i32, .i32 | .i64, .i64 | .u8, .u8 | .u16, .u16 | .u32, .u32 | .u64, .u64 => true
 | _, _ => false
def binS (op : BinOp) (x y : Value) : Option (Value × List Prop) :=
 match op, x, y with
 | .shl, .int k a, .int _ b => some (.int k (k.wrap (a * 2 ^ (min b.toNat k.bits))), [0 ≤ b])
 | .shr, .int k a, .int _ b => some (.int k (a.fdiv (2 ^ (min b.toNat k.bits))), [0 ≤ b])
 | op, .int k a, .int k' b => bif kindEq k k' then binI op k a b else none
 | .eql, .string a, .string b => some (.bool (a.toList == b.toList), [])
 | .neq, .string a, .string b => some (.bool (!(a.toList == b.toList)), [])
 | .lss, .string a, .string b => some (.bool (Op.bytesLess a.toList b.toList), [])
 | .leq, .string a, .string b => some (.bool (Op.bytesLess a.toList b.toList || a.toList == b.toList), [])
 | .gtr, .string a, .string b => some (.bool !(Op.bytesLess a.toList b.toList || a.toList == b.toList), [])
 | .geq, .string a, .string b => some (.bool !(Op.bytesLess a.toList b.toList), [])
 | .add, .string a, .string b => some (.string (a ++ b), [((a.size + b.size : Nat) : Int) ≤ IntKind.i64.max])
 | _, _, _ => none
def binB (P : Program) (t : TypeId) (op : BinOp) (a b : Bool) : Option Value :=
 match P.underlying t, op with
 | some .bool, .eql => some (.bool (a == b))
 | some .bool, .neq => some (.bool (!(a == b)))
 | _, _ => none
def binM (P : Program) (t : TypeId) (op : BinOp) (x y : M) : Option (M × List Prop) :=
 match x, y with
 | .t (.s (.bool a)), .t (.s (.bool b)) => match binB P t op a b with
  | some v => some (.t (.s v), [])
  | none => none
 | .t (.f a), .t (.f b) => match binF op a b with
  | some r => some (.t r, [])
  | none => none
 | .t (.s a), .t (.s b) => match binS op a b with
  | some (v, ps) => some (.t (.s v), ps)
  | none => none
 | _, _ => none
def unM (op : UnOp) (x : M) : Option M :=
 match op, x with
 | .not, .t (.s (.bool b)) => some (.t (.s (.bool !b)))
 | .neg, .t (.s (.int k n)) => some (.t (.s (.int k (k.wrap (0 - n)))))
 | .neg, .t (.f (some b)) => some (.t (.f (some (Op.negFloat .f64 b))))
 | _, _ => none
def convM (P : Program) (src dst : TypeId) (x : M) : Option M :=
 match P.underlying src, P.underlying dst, x with
 | some _, some (.int k), .t (.s (.int _ n)) => some (.t (.s (.int k (k.wrap n))))
 | some _, some (.float .f64), .t (.s (.int _ n)) => some (.t (.f (some (FloatKind.f64.nearest n))))
 | some (.string), some (.string), .t (.s (.string s)) => some (.t (.s (.string s)))
 | _, _, _ => none
mutual
def hasH (k : Nat) : M → Bool
 | .own j _ _ => Nat.beq j k
 | .ptr j _ => Nat.beq j k
 | .pe j _ _ => Nat.beq j k
 | .sb j _ _ _ => Nat.beq j k
 | .mp j => Nat.beq j k
 | .agg cs => hasHs k cs
 | .clo _ cs => hasHs k cs
 | .tup cs => hasHs k cs
 | _ => false
def hasHs (k : Nat) : List M → Bool
 | [] => false
 | c :: r => hasH k c || hasHs k r
end
def memN (d : Nat) : List Nat → Bool
 | [] => false
 | x :: r => Nat.beq x d || memN d r
def boxH (k : Nat) : M → Bool
 | .os cs => hasHs k cs
 | .oa hs _ _ => memN k hs
 | .om hs _ => memN k hs
 | _ => false
def sgH (k : Nat) : List (Nat × M) → Bool
 | [] => false
 | (_, m) :: r => hasH k m || sgH k r
def bxH (k : Nat) : List (Nat × M) → Bool
 | [] => false
 | (_, c) :: r => boxH k c || bxH k r
def free (st : St) (k : Nat) : Bool :=
 Nat.blt k CB && (match lookB st.bx k with | none => true | some _ => false) && !sgH k st.sg && !bxH k st.bx
def dropB (k : Nat) : List (Nat × M) → List (Nat × M)
 | [] => []
 | (j, c) :: r => bif Nat.beq j k then dropB k r else (j, c) :: dropB k r
def dropBs : List Nat → List (Nat × M) → List (Nat × M)
 | [], l => l
 | k :: r, l => dropB k (dropBs r l)
structure Eff where
 val : M
 new : List (Nat × M) := []
 put : List (Nat × M) := []
 del : List Nat := []
 touch : List Nat := []
 stop : Option Value := none
structure Res where
 eff : Eff
 os : List O
 cs : List (FuncId × List M × List M × Oc × List Bk) := []
 ps : List Prop := []
def names (l : List (Nat × M)) : List Nat := l.map (·.1)
def asI : M → Option Int
 | .t (.s (.int _ n)) => some n
 | _ => none
def sliceS (s : ByteArray) (lo hi : Option M) : Option (M × List Prop) :=
 match (match lo with | some m => asI m | none => some 0), (match hi with | some m => asI m | none => some (s.size : Int)) with
 | some l, some h => some (.t (.s (.string (s.extract l.toNat h.toNat))), [0 ≤ l, l ≤ h, h ≤ (s.size : Int)])
 | _, _ => none
def sliceL (z : Nat) (xs : List (List T)) (lo hi mx : Option M) : Option (M × List Prop) :=
 match (match lo with | some m => asI m | none => some 0), (match hi with | some m => asI m | none => some (xs.length : Int)) with
 | some l, some h => match mx with
  | none => some (.t (.sl ((xs.take h.toNat).drop l.toNat)), [0 ≤ l, l ≤ h, h ≤ (xs.length : Int), ∀ x, x ∈ xs → x.length = z])
  | some m => match asI m, hi with
   | some q, some _ => some (.tight ((xs.take h.toNat).drop l.toNat), [0 ≤ l, l ≤ h, h ≤ (xs.length : Int), ∀ x, x ∈ xs → x.length = z, q = h, 0 < q])
   | _, _ => none
 | _, _ => none
def sliceB (k z lo n : Nat) (l h : Option M) : Option (M × List Prop) :=
 match (match l with | some m => asI m | none => some 0), (match h with | some m => asI m | none => some (n : Int)) with
 | some l, some h => some (.sb k z (lo + l.toNat) (h.toNat - l.toNat), [0 ≤ l, l ≤ h, h ≤ (n : Int)])
 | _, _ => none
def optEv (sg : List (Nat × M)) : Option Operand → Option (Option M)
 | none => some none
 | some x => match ev sg x with
  | some m => some (some m)
  | none => none
def lenM (P : Program) (t : TypeId) (m : M) : Option M :=
 match P.underlying t with
 | some .string => match m with
  | .t (.s (.string s)) => some (.t (.s (.int .i64 s.size)))
  | _ => none
 | some (.slice _) => match m with
  | .sb _ _ _ n => some (.t (.s (.int .i64 n)))
  | m => match slOf m with
   | some xs => some (.t (.s (.int .i64 xs.length)))
   | none => none
 | _ => none
def valS : M → Option Value
 | .t (.s v) => some v
 | _ => none
def valSs : List M → Option (List Value)
 | [] => some []
 | m :: r => match valS m, valSs r with
  | some v, some vs => some (v :: vs)
  | _, _ => none
def valM : M → Option Value
 | .t (.s v) => some v
 | .agg cs => match valSs cs with
  | some vs => some (.agg vs.toArray)
  | none => none
 | _ => none
def vop (P : Program) (sg : List (Nat × M)) : Op → Option (M × List Prop)
 | .move x | .assign x => match ev sg x with
  | some m => some (m, [])
  | none => none
 | .pick c a b => match ev sg c, ev sg a, ev sg b with
  | some (.t (.s (.bool c))), some a, some b => some (bif c then a else b, [])
  | _, _, _ => none
 | .load t x => match ev sg x, szOf P t with
  | some (.cp cs), some n => match cut (cs.map .t) 0 n with
   | some ds => match mk P t ds with
    | some m => some (m, [])
    | none => none
   | none => none
  | _, _ => none
 | .fieldAddr t x i => match ev sg x, fieldAt P t i with
  | some (.ptr k off), some (o, n, _) => bif Nat.beq n 0 then none else some (.ptr k (off + o), [])
  | some (.pe k j off), some (o, n, _) => bif Nat.beq n 0 then none else some (.pe k j (off + o), [])
  | some (.cp cs), some (o, n, _) => bif Nat.beq n 0 then none else some (.cp (cs.drop o), [])
  | _, _ => none
 | .field t x i => match ev sg x, fieldAt P t i with
  | some (.agg cs), some (o, n, ft) => match cut cs o n with
   | some ds => match mk P ft ds with
    | some m => some (m, [])
    | none => none
   | none => none
  | _, _ => none
 | .build t ps => match zeroM P t, placesOf P t with
  | some z, some pl => match fillM pl sg ps.toList z with
   | some cs => some (.agg cs, [])
   | none => none
  | _, _ => none
 | .nilCheck x => match ev sg x with
  | some (.ptr k off) => some (.ptr k off, [])
  | some (.pe k i off) => some (.pe k i off, [])
  | some (.cp cs) => some (.cp cs, [])
  | some (.clo f cs) => some (.clo f cs, [])
  | _ => none
 | .binOp op t x y _ => match ev sg x, ev sg y with
  | some a, some b => binM P t op a b
  | _, _ => none
 | .unOp op _ x => match ev sg x with
  | some a => match unM op a with
   | some m => some (m, [])
   | none => none
  | none => none
 | .convert s d x => match ev sg x with
  | some a => match convM P s d a with
   | some m => some (m, [])
   | none => none
  | none => none
 | .makeInterface t x => match ev sg x, P.underlying t with
  | some _, some (.interface _) => none
  | some a, some _ => match valM a with
   | some v => some (.t (.s (.iface t v)), [])
   | none => none
  | _, _ => none
 | .extract x i => match ev sg x with
  | some (.tup vs) => match vs[i]? with
   | some m => some (m, [])
   | none => none
  | _ => none
 | .index t x i => match P.underlying t, ev sg x, ev sg i with
  | some (.string), some (.t (.s (.string s))), some (.t (.s (.int _ n))) =>
   some (.t (.s (.int .u8 ((s.data.toList.getD n.toNat 0).toNat : Nat))), [0 ≤ n, n < (s.size : Int)])
  | _, _, _ => none
 | .slice t x lo hi mx => match ev sg x, optEv sg lo, optEv sg hi, optEv sg mx with
  | some m, some l, some h, some q => match P.underlying t with
   | some .string => match m, q with
    | .t (.s (.string s)), none => sliceS s l h
    | _, _ => none
   | some (.slice e) => match szOf P e with
    | some z => bif Nat.beq z 0 then none else match m with
     | .sb k z' lo n => match q with
      | none => bif Nat.beq z z' then sliceB k z lo n l h else none
      | some _ => none
     | m => match slOf m with
      | some xs => sliceL z xs l h q
      | none => none
    | none => none
   | _ => none
  | _, _, _, _ => none
 | .call c => match c.callee, c.args.toList, c.argTypes.toList with
  | .builtin .len, [x], [t] => match ev sg x with
   | some m => match lenM P t m with
    | some r => some (r, [])
    | none => none
   | none => none
  | _, _, _ => none
 | _ => none
def loadB (P : Program) (bx : Nat → Option M) (t : TypeId) (p : M) (os : List O) : Option Res :=
 match p, szOf P t with
 | .ptr k off, some n => match bx k with
  | some (.os cs) => match cut cs off n with
   | some ds => bif allCell ds then match mk P t ds with
     | some m => some { eff := { val := m, touch := [k] }, os := os }
     | none => none
    else none
   | none => none
  | _ => none
 | .pe k i off, some n => match bx k, os with
  | some (.oa _ _ xs), .cells cs :: os' => match cut cs off n with
   | some ds => bif allCell ds then match mk P t ds with
     | some m => some { eff := { val := m, touch := [k] }, os := os', ps := [xs[i]? = some cs] }
     | none => none
    else none
   | none => none
  | _, _ => none
 | _, _ => none
def hsIn (hs : List Nat) : M → Bool
 | .own j _ _ => memN j hs
 | .ptr j _ => memN j hs
 | .pe j _ _ => memN j hs
 | .sb j _ _ _ => memN j hs
 | .mp j => memN j hs
 | .clo _ _ => false
 | .agg _ => false
 | .tup _ => false
 | _ => true
def allHs (hs : List Nat) : List M → Bool
 | [] => true
 | m :: r => hsIn hs m && allHs hs r
def stoB (P : Program) (bx : Nat → Option M) (t : TypeId) (p x : M) (os : List O) : Option Res :=
 match cellsM x, szOf P t with
 | some ds, some n => bif Nat.beq ds.length n then
   match p with
   | .ptr k off => bif Nat.ble RB k then none else match bx k with
    | some (.os cs) => match lay cs off ds with
     | some cs' => some { eff := { val := .tup [], put := [(k, .os cs')], touch := [k] }, os := os }
     | none => none
    | _ => none
   | .pe k i off => bif Nat.ble RB k then none else match bx k, os with
    | some (.oa hs z xs), .cells cs :: os' => bif allHs hs ds then match lay cs off ds with
      | some cs' => some { eff := { val := .tup [], put := [(k, .oa hs z (xs.set i cs'))], touch := [k] }, os := os', ps := [xs[i]? = some cs] }
      | none => none
     else none
    | _, _ => none
   | _ => none
  else none
 | _, _ => none
def capM : List M → Option (List M)
 | [] => some []
 | m :: r => match capM r with
  | some ms => match m with
   | .ptr k 0 => some (.ptr k 0 :: ms)
   | .cp cs => some (.cp cs :: ms)
   | m => match closeT m with
    | some x => some (.t x :: ms)
    | none => none
  | none => none
def appM (z : Nat) (x y : M) : Option (Option Nat × List (List T) × List (List T)) :=
 match slOf y with
 | some ys => match x with
  | .tight xs => some (none, xs, ys)
  | .own id z' xs => bif Nat.beq z z' then some (some id, xs, ys) else none
  | _ => none
 | none => none
def one1 : Value → Bool
 | .agg _ => false
 | .tuple _ => false
 | _ => true
def rowOf (P : Program) (e : TypeId) : Option (Nat × Nat) :=
 match P.info? e with
 | some i => match i.zero with
  | some v => bif Nat.beq v.cells.size i.size && !Nat.beq i.size 0 && v.cells.toList.all one1 then some (i.size, i.bytes) else none
  | none => none
 | none => none
def elemsM (sz : Nat) (sg : List (Nat × M)) : Nat → List (Nat × Operand) → Option (List (List M))
 | _, [] => some []
 | k, (i, x) :: r =>
  bif Nat.beq i k then
   match ev sg x with
   | some m => match cellsM m with
    | some ds => bif Nat.beq ds.length sz then
      match elemsM sz sg (k + 1) r with
      | some rest => some (ds :: rest)
      | none => none
     else none
    | none => none
   | none => none
  else none
mutual
def handles : M → List Nat
 | .own j _ _ => [j]
 | .ptr j _ => [j]
 | .pe j _ _ => [j]
 | .sb j _ _ _ => [j]
 | .mp j => [j]
 | .agg cs => handless cs
 | .clo _ cs => handless cs
 | .tup cs => handless cs
 | _ => []
def handless : List M → List Nat
 | [] => []
 | m :: r => handles m ++ handless r
end
def handlesss : List (List M) → List Nat
 | [] => []
 | m :: r => handless m ++ handlesss r
def nameIn (bs : List Bk) (L : List Nat) (k : Nat) : Option Nat :=
 match idx k L 0 with
 | some i => some (nameOf bs i)
 | none => none
def nameOut (bs : List Bk) (L : List Nat) (k : Nat) : Option Nat :=
 match idx k ((List.range L.length).map (nameOf bs)) 0 with
 | some i => L[i]?
 | none => none
mutual
def mapH (f : Nat → Option Nat) : M → Option M
 | .any => some .any
 | .t x => some (.t x)
 | .tight xs => some (.t (.sl xs))
 | .cp cs => some (.cp cs)
 | .own _ _ xs => some (.t (.sl xs))
 | .agg cs => match mapHs f cs with
  | some ds => some (.agg ds)
  | none => none
 | .clo g cs => match mapHs f cs with
  | some ds => some (.clo g ds)
  | none => none
 | .tup cs => match mapHs f cs with
  | some ds => some (.tup ds)
  | none => none
 | .ptr k o => match f k with
  | some j => some (.ptr j o)
  | none => none
 | .pe k i o => match f k with
  | some j => some (.pe j i o)
  | none => none
 | .sb k z lo n => match f k with
  | some j => some (.sb j z lo n)
  | none => none
 | .mp k => match f k with
  | some j => some (.mp j)
  | none => none
 | .os cs => some (.os cs)
 | .oa hs z xs => some (.oa hs z xs)
 | .op z xs => some (.op z xs)
 | .om hs es => some (.om hs es)
def mapHs (f : Nat → Option Nat) : List M → Option (List M)
 | [] => some []
 | m :: r => match mapH f m, mapHs f r with
  | some x, some xs => some (x :: xs)
  | _, _ => none
end
def mapB (f : Nat → Option Nat) : M → Option M
 | .os cs => match mapHs f cs with
  | some ds => some (.os ds)
  | none => none
 | .oa [] z xs => some (.oa [] z xs)
 | .op z xs => some (.op z xs)
 | .om [] es => some (.om [] es)
 | _ => none
def mapBs (f : Nat → Option Nat) (bx : Nat → Option M) : List Nat → Option (List M)
 | [] => some []
 | k :: r => match bx k with
  | some b => match mapB f b, mapBs f bx r with
   | some x, some xs => some (x :: xs)
   | _, _ => none
  | none => none
def handleOf (k : Nat) : M → M
 | .os _ => .ptr k 0
 | .oa _ z xs => .sb k z 0 xs.length
 | .op z xs => .own k z xs
 | .om _ _ => .mp k
 | m => m
mutual
def adopt (b : Nat) : M → M × List (Nat × M)
 | .agg cs => match adopts b cs with
  | (ds, l) => (.agg ds, l)
 | .tup cs => match adopts b cs with
  | (ds, l) => (.tup ds, l)
 | .os cs => (.ptr b 0, [(b, .os cs)])
 | .oa hs z xs => (.sb b z 0 xs.length, [(b, .oa hs z xs)])
 | .op z xs => (.own b z xs, [(b, .op z xs)])
 | .om hs es => (.mp b, [(b, .om hs es)])
 | m => (m, [])
def adopts (b : Nat) : List M → List M × List (Nat × M)
 | [] => ([], [])
 | m :: r => match adopt b m with
  | (x, l) => match adopts (b + l.length) r with
   | (xs, l') => (x :: xs, l ++ l')
end
def callee (sg : List (Nat × M)) (c : Call) : Option (FuncId × List M) :=
 match c.callee with
 | .value x => match ev sg x, evs sg c.args.toList with
  | some (.clo f caps), some ms => some (f, ms ++ caps)
  | _, _ => none
 | _ => none
def backB (f : Nat → Option Nat) : List Nat → List Bk → Option (List (Nat × M) × List Nat)
 | [], [] => some ([], [])
 | k :: r, b :: bs => match backB f r bs with
  | some (l, d) => match b with
   | .same => some (l, d)
   | .gone => some (l, k :: d)
   | .is x => match mapB f x with
    | some y => some ((k, y) :: l, d)
    | none => none
  | none => none
 | _, _ => none
end Go.Bm
/- The run of one operation, of a region. -/
namespace Go.Bm
def distinct : List Nat → Bool
 | [] => true
 | x :: r => !memN x r && distinct r
def allFree (st : St) : List Nat → Bool
 | [] => true
 | k :: r => free st k && allFree st r
def St.does (st : St) (d : Option Nat) (e : Eff) : Option St :=
 bif allFree st (names e.new) && distinct (names e.new) then
  match d with
  | some d => bif Nat.blt d st.n then
    some { st with sg := (d, e.val) :: st.sg, bx := e.new ++ (e.put ++ dropBs (e.del ++ (names e.put ++ names e.new)) st.bx) } else none
  | none => some { st with bx := e.new ++ (e.put ++ dropBs (e.del ++ (names e.put ++ names e.new)) st.bx) }
 else none
def allRw : List Nat → List Bk → Bool
 | [], _ => true
 | _, [] => true
 | k :: r, b :: bs => (match b with | .same => true | _ => Nat.blt k RB) && allRw r bs
inductive Vt (bx : Nat → Option M) : M → T → Prop
 | t (x : T) : Vt bx (.t x) x
 | tight (xs : List (List T)) : Vt bx (.tight xs) (.sl xs)
 | own (id z : Nat) (xs : List (List T)) : Vt bx (.own id z xs) (.sl xs)
 | op (z : Nat) (xs : List (List T)) : Vt bx (.op z xs) (.sl xs)
 | oa (hs : List Nat) (z : Nat) (xs : List (List M)) (ts : List (List T)) (hl : xs.length = ts.length) (hr : ∀ (i : Nat) (cs : List M) (rs : List T), xs[i]? = some cs → ts[i]? = some rs → cs.length = rs.length)
   (h : ∀ (i j : Nat) (cs : List M) (rs : List T) (c : M) (r : T), xs[i]? = some cs → ts[i]? = some rs → cs[j]? = some c → rs[j]? = some r → Vt bx c r) : Vt bx (.oa hs z xs) (.sl ts)
 | sb (k z lo n : Nat) (hs : List Nat) (xs : List (List M)) (ts : List (List T)) (hk : bx k = some (.oa hs z xs)) (hn : lo + n ≤ xs.length) (h : Vt bx (.oa hs z xs) (.sl ts)) : Vt bx (.sb k z lo n) (.sl ((ts.drop lo).take n))
inductive Vm (bx : Nat → Option M) : M → M → Prop
 | any (m : M) : Vm bx m .any
 | t (m : M) (x : T) (h : Vt bx m x) : Vm bx m (.t x)
 | cp (cs : List T) : Vm bx (.cp cs) (.cp cs)
 | agg (cs ds : List M) (hl : cs.length = ds.length) (h : ∀ (j : Nat) (c d : M), cs[j]? = some c → ds[j]? = some d → Vm bx c d) : Vm bx (.agg cs) (.agg ds)
 | clo (f : FuncId) (cs ds : List M) (hl : cs.length = ds.length) (h : ∀ (j : Nat) (c d : M), cs[j]? = some c → ds[j]? = some d → Vm bx c d) : Vm bx (.clo f cs) (.clo f ds)
 | ptr (k o : Nat) (cs : List M) (ts : List T) (hk : bx k = some (.os cs)) (hl : cs.length = ts.length) (h : ∀ (j : Nat) (c : M) (r : T), cs[j]? = some c → ts[j]? = some r → Vt bx c r) : Vm bx (.ptr k o) (.cp (ts.drop o))
 | pe (k i o : Nat) (hs : List Nat) (z : Nat) (xs : List (List M)) (cs : List M) (ts : List T) (hk : bx k = some (.oa hs z xs)) (hi : xs[i]? = some cs) (hl : cs.length = ts.length) (h : ∀ (j : Nat) (c : M) (r : T), cs[j]? = some c → ts[j]? = some r → Vt bx c r) : Vm bx (.pe k i o) (.cp (ts.drop o))
def VmL (bx : Nat → Option M) (ms as : List M) : Prop := ms.length = as.length ∧ ∀ (j : Nat) (m a : M), ms[j]? = some m → as[j]? = some a → Vm bx m a
def noMemT : T → Bool
 | .sl (_ :: _) => false
 | _ => true
mutual
def noMem : M → Bool
 | .t x => noMemT x
 | .any => true
 | .agg cs => noMems cs
 | .tup cs => noMems cs
 | _ => false
def noMems : List M → Bool
 | [] => true
 | m :: r => noMem m && noMems r
end
def rstr (bx : Nat → Option M) (L : List Nat) : Nat → Option M := fun k => bif memN k L then bx k else none
def callB (sg : List (Nat × M)) (bx : Nat → Option M) (c : Call) (oc : Oc) (L : List Nat) (as : List M) (os : List O) : Option Res :=
 match callee sg c with
 | some (f, ms) => match oc with
  | .ret r => bif noMem r then some { eff := { val := r, touch := L }, os := os, cs := [(f, as, [], .ret r, [])], ps := [VmL (rstr bx L) ms as] } else none
  | .pan v => some { eff := { val := .tup [], touch := L, stop := some v }, os := os, cs := [(f, as, [], .pan v, [])], ps := [VmL (rstr bx L) ms as] }
 | none => none
def callF (sg : List (Nat × M)) (bx : Nat → Option M) (c : Call) (os : List O) : Option Res :=
 match callee sg c, os with
 | some (f, ms), .ret oc L bs base :: os' =>
  bif distinct L && Nat.beq L.length bs.length && allRw L bs && Nat.ble L.length 1000 then
   match mapHs (nameIn bs L) ms, mapBs (nameIn bs L) bx L with
   | some as, some ls => match backB (nameOut bs L) L bs with
    | some (put, del) => match oc with
     | .ret r => match mapH (nameOut bs L) r with
      | some r' => match adopt base r' with
       | (v, new) => some { eff := { val := v, new := new, put := put, del := del, touch := L }, os := os', cs := [(f, as, ls, oc, bs)] }
      | none => none
     | .pan v => some { eff := { val := .tup [], put := put, del := del, touch := L, stop := some v }, os := os', cs := [(f, as, ls, oc, bs)] }
    | none => none
   | _, _ => none
  else none
 | _, _ => none
def callA (sg : List (Nat × M)) (bx : Nat → Option M) (c : Call) : List O → Option Res
 | .bor oc L as :: os => callB sg bx c oc L as os
 | os => callF sg bx c os
def rowsT (ys : List (List T)) : List (List M) := ys.map (fun r => r.map M.t)
def appB (P : Program) (sg : List (Nat × M)) (bx : Nat → Option M) (d : Nat) (t u : TypeId) (x y : Operand) (os : List O) : Option Res :=
 match elemOf P t, ev sg x, ev sg y with
 | some e, some a, some b => match rowOf P e with
  | some (z, bytes) => bif Nat.beq t u then
    match a with
    | .sb k z' lo n => bif Nat.ble RB k then none else match bx k with
     | some (.oa hs _ xs) => bif Nat.beq lo 0 && Nat.beq z z' then
       match b with
       | .sb j z'' lo' m => match bx j with
        | some (.oa hs' _ ys) => bif Nat.beq lo' 0 && Nat.beq z z'' && !Nat.beq j k && Nat.blt j RB then
          some { eff := { val := .sb d z 0 (n + m), new := [(d, .oa (hs ++ hs') z (xs ++ ys))], del := [k, j], touch := [k, j] }, os := os, ps := [n = xs.length, m = ys.length, (n + m) * bytes ≤ 140737488355328, n + m ≤ 274877906944] }
         else none
        | _ => none
       | b => match slOf b with
        | some ys => some { eff := { val := .sb d z 0 (n + ys.length), new := [(d, .oa hs z (xs ++ rowsT ys))], del := [k], touch := [k] }, os := os, ps := [n = xs.length, (n + ys.length) * bytes ≤ 140737488355328, n + ys.length ≤ 274877906944, ∀ y, y ∈ ys → y.length = z] }
        | none => none
      else none
     | _ => none
    | a => match appM z a b with
     | some (id, xs, ys) =>
      match id with
      | none => some { eff := { val := .own d z (xs ++ ys), new := [(d, .op z (xs ++ ys))] }, os := os, ps := [(xs.length + ys.length) * bytes ≤ 140737488355328, xs.length + ys.length ≤ 274877906944, ∀ x, x ∈ xs → x.length = z, ∀ x, x ∈ ys → x.length = z] }
      | some k => bif Nat.ble RB k then none else match bx k with
       | some (.op _ _) => some { eff := { val := .own d z (xs ++ ys), new := [(d, .op z (xs ++ ys))], del := [k], touch := [k] }, os := os, ps := [(xs.length + ys.length) * bytes ≤ 140737488355328, xs.length + ys.length ≤ 274877906944, ∀ x, x ∈ xs → x.length = z, ∀ x, x ∈ ys → x.length = z] }
       | _ => none
     | none => none
   else none
  | none => none
 | _, _, _ => none
def szEq (P : Program) (e : TypeId) (z : Nat) : Bool :=
 match szOf P e with
 | some z' => Nat.beq z z'
 | none => false
def step (P : Program) (o : Oper) (sg : List (Nat × M)) (bx : Nat → Option M) (os : List O) : Option Res :=
 match vop P sg o.op with
 | some (m, ps) => some { eff := { val := m }, os := os, ps := ps }
 | none => match o.op with
  | .load t x => match ev sg x with
   | some p => loadB P bx t p os
   | none => none
  | .store t p x => match ev sg p, ev sg x with
   | some p, some x => stoB P bx t p x os
   | _, _ => none
  | .alloc t => match zeroM P t, o.dst with
   | some z, some d => some { eff := { val := .ptr d 0, new := [(d, .os z)] }, os := os }
   | _, _ => none
  | .box _ x => match ev sg x, o.dst with
   | some m, some d => match cellsM m with
    | some cs => some { eff := { val := .ptr d 0, new := [(d, .os cs)] }, os := os }
    | none => none
   | _, _ => none
  | .buildSlice t len ps => match elemOf P t, o.dst with
   | some e, some d => match rowOf P e with
    | some (z, _) => match elemsM z sg 0 ps.toList with
     | some xs => bif Nat.beq xs.length len && !Nat.beq (len * z) 0 && Nat.ble (len * z) 16777216 then
       match os with
       | .mut :: os' => some { eff := { val := .sb d z 0 len, new := [(d, .oa (handlesss xs) z xs)] }, os := os' }
       | os => match xs.mapM closeTs with
        | some ts => some { eff := { val := .tight ts }, os := os }
        | none => none
      else none
     | none => none
    | none => none
   | _, _ => none
  | .indexAddr t x i => match elemOf P t, ev sg x, ev sg i with
   | some e, some m, some (.t (.s (.int _ n))) => match m with
    | .sb k z lo l => bif szEq P e z then some { eff := { val := .pe k (lo + n.toNat) 0 }, os := os, ps := [0 ≤ n, n < (l : Int)] } else none
    | m => match slOf m, szOf P e, os with
     | some xs, some z, .cellsT cs :: os' => bif Nat.beq cs.length z then
       some { eff := { val := .cp cs }, os := os', ps := [0 ≤ n, xs[n.toNat]? = some cs] }
      else none
     | _, _, _ => none
   | _, _, _ => none
  | .makeFunc (.func f) fs caps => match fs.toList, evs sg caps.toList with
   | [], some ms => match capM ms with
    | some ms' => some { eff := { val := .clo f ms' }, os := os }
    | none => none
   | _, _ => none
  | .panic x => match ev sg x with
   | some m => match valM m with
    | some (.iface t v) => some { eff := { val := .tup [], stop := some (.iface t v) }, os := os }
    | _ => none
   | none => none
  | .call c => match c.callee, c.args.toList, c.argTypes.toList with
   | .builtin .append, [x, y], [t, u] => match o.dst with
    | some d => appB P sg bx d t u x y os
    | none => none
   | _, _, _ => callA sg bx c os
  | _ => none
def wants (ops : List Oper) (o : Oper) (sg : List (Nat × M)) : Option Bool :=
 match o.guard with
 | none => some true
 | some (j, b) => match ops[j]? with
  | some g => match g.dst with
   | some d => match look sg d with
    | .t (.s (.bool c)) => some (bif b then c else !c)
    | .tup _ => some false
    | _ => none
   | none => none
  | none => none
def guards (ops : List Oper) (i : Nat) : Bool := ops.any fun o => match o.guard with | some (j, _) => Nat.beq i j | none => false
def told (x : Res) : Option Res :=
 match x.eff.val, x.os with
 | .t (.s (.bool b)), .bit c :: os' => some { x with eff := { x.eff with val := .t (.s (.bool c)) }, os := os', ps := (b = c) :: x.ps }
 | _, _ => none
def one (P : Program) (ops : List Oper) (i : Nat) (sg : List (Nat × M)) (bx : Nat → Option M) (os : List O) : Option Res :=
 match ops[i]? with
 | none => none
 | some o => match wants ops o sg with
  | some true => match step P o sg bx os with
   | some r => bif guards ops i then told r else some r
   | none => none
  | some false => some { eff := { val := .tup [] }, os := os }
  | none => none
structure Rs where
 st : St
 os : List O
 cs : List (FuncId × List M × List M × Oc × List Bk)
 ps : List Prop
 stop : Option Value
def dstOf (ops : List Oper) (i : Nat) : Option Nat := match ops[i]? with | some o => o.dst | none => none
def act (P : Program) (ops : List Oper) (i : Nat) (st : St) (os : List O) : Option Rs :=
 match one P ops i st.sg (lookB st.bx) os with
 | some x => match st.does (match x.eff.stop with | none => dstOf ops i | some _ => none) x.eff with
  | some st' => some ⟨st', x.os, x.cs, x.ps, x.eff.stop⟩
  | none => none
 | none => none
def many (P : Program) (ops : List Oper) : List Nat → St → List O → Option Rs
 | [], st, os => some ⟨st, os, [], [], none⟩
 | i :: r, st, os => match act P ops i st os with
  | some x => match x.stop with
   | some v => some ⟨x.st, x.os, x.cs, x.ps, some v⟩
   | none => match many P ops r x.st x.os with
    | some y => some ⟨y.st, y.os, x.cs ++ y.cs, x.ps ++ y.ps, y.stop⟩
    | none => none
  | none => none
end Go.Bm
/- What the machine's values stand for in the model's world. -/
namespace Go.Bm
open Go.RowKit (Below)
theorem nbeq_t {a b : Nat} (h : Nat.beq a b = true) : a = b := Nat.eq_of_beq_eq_true h
theorem nbeq_f {a b : Nat} (h : Nat.beq a b = false) : a ≠ b := Nat.ne_of_beq_eq_false h
theorem nbeq_of_ne {a b : Nat} (h : a ≠ b) : Nat.beq a b = false := by
 cases e : Nat.beq a b with
 | false => rfl
 | true => exact absurd (nbeq_t e) h
abbrev Dm := Nat → Nat → Option Value
def Dm.le (D D' : Dm) : Prop := ∀ b j v, D b j = some v → D' b j = some v
def Dm.inW (D : Dm) (w : World) : Prop := ∀ b j v, D b j = some v → w.cell? ⟨b, j, none⟩ = some v
theorem Dm.le_refl (D : Dm) : D.le D := fun _ _ _ h => h
theorem Dm.le_trans {D D' D'' : Dm} (h : D.le D') (k : D'.le D'') : D.le D'' := fun b j v e => k b j v (h b j v e)
def nanB (b : Nat) : Prop := (FloatKind.f64.format.read b).isNaN = true
inductive RepT (D : Dm) : Value → T → Prop
 | s (v : Value) (h : v.oneCell' = true) : RepT D v (.s v)
 | f (b : Nat) : RepT D (.float .f64 b) (.f (some b))
 | nan (b : Nat) (h : nanB b) : RepT D (.float .f64 b) (.f none)
 | nil : RepT D (.slice none 0 0) (.sl [])
 | spot (a : Addr) : RepT D (.slice (some a) 0 0) (.sl [])
 | sl (b off n cap z : Nat) (xs : List (List T)) (cell : Nat → Nat → Value) (hn : n = xs.length) (hc : n ≤ cap ∧ n ≤ 274877906944)
   (hz : ∀ (i : Nat) (cs : List T), xs[i]? = some cs → cs.length = z)
   (hD : ∀ i j, i < n → j < z → D b (off + (i * z + j)) = some (cell i j))
   (hr : ∀ (i j : Nat) (cs : List T) (c : T), xs[i]? = some cs → cs[j]? = some c → RepT D (cell i j) c) :
   RepT D (.slice (some ⟨b, off, none⟩) n cap) (.sl xs)
theorem RepT.mono {D D' : Dm} (hD : D.le D') {v : Value} {x : T} (h : RepT D v x) : RepT D' v x := by
 induction h with
 | s v h => exact .s v h
 | f b => exact .f b
 | nan b h => exact .nan b h
 | nil => exact .nil
 | spot a => exact .spot a
 | sl b off n cap z xs cell hn hc hz hd _ ih =>
  exact .sl b off n cap z xs cell hn hc hz (fun i j hi hj => hD _ _ _ (hd i j hi hj)) ih
theorem RepT.one {D : Dm} {v : Value} {x : T} (h : RepT D v x) : v.oneCell' = true := by
 cases h <;> first | assumption | rfl
inductive Hd where
 | p (b : Nat)
 | s (ad : Option (Nat × Nat)) (z c : Nat)
 | a (v : Value) (z : Nat)
 | m (b : Nat)
abbrev Foot := Nat → Prop
structure Gh where
 D : Dm
 β : Nat → Option Hd
 φ : Nat → Foot
inductive RepM (g : Gh) : Value → M → Prop
 | any (v : Value) : RepM g v .any
 | t (v : Value) (x : T) (h : RepT g.D v x) : RepM g v (.t x)
 | agg (vs : List Value) (cs : List M) (hl : vs.length = cs.length)
   (h : ∀ (j : Nat) (v : Value) (c : M), vs[j]? = some v → cs[j]? = some c → RepM g v c) : RepM g (.agg vs.toArray) (.agg cs)
 | tight (a : Option Addr) (n : Nat) (xs : List (List T)) (h : RepT g.D (.slice a n n) (.sl xs)) (hs : ∀ ad, a = some ad → ad.spot = none) : RepM g (.slice a n n) (.tight xs)
 | cp (b off : Nat) (cs : List T) (cell : Nat → Value) (hD : ∀ j, j < cs.length → g.D b (off + j) = some (cell j))
   (hr : ∀ (j : Nat) (c : T), cs[j]? = some c → RepT g.D (cell j) c) : RepM g (.pointer (some ⟨b, off, none⟩)) (.cp cs)
 | clo (f : FuncId) (vs : List Value) (cs : List M) (hl : vs.length = cs.length)
   (h : ∀ (j : Nat) (v : Value) (c : M), vs[j]? = some v → cs[j]? = some c → RepM g v c) : RepM g (.func (.func f) #[] vs.toArray) (.clo f cs)
 | tup (vs : List Value) (cs : List M) (hl : vs.length = cs.length)
   (h : ∀ (j : Nat) (v : Value) (c : M), vs[j]? = some v → cs[j]? = some c → RepM g v c) : RepM g (.tuple vs.toArray) (.tup cs)
 | own (v : Value) (id z : Nat) (xs : List (List T)) (h : RepT g.D v (.sl xs)) (ho : g.β id = some (.a v z)) : RepM g v (.own id z xs)
 | ptr (b k off : Nat) (h : g.β k = some (.p b)) : RepM g (.pointer (some ⟨b, off, none⟩)) (.ptr k off)
 | pe (b o z c k i off : Nat) (h : g.β k = some (.s (some (b, o)) z c)) : RepM g (.pointer (some ⟨b, o + (i * z + off), none⟩)) (.pe k i off)
 | sb (b o z c k lo n : Nat) (h : g.β k = some (.s (some (b, o)) z c)) (hc : lo + n ≤ c) (hn : n ≤ 274877906944) : RepM g (.slice (some ⟨b, o + lo * z, none⟩) n (c - lo)) (.sb k z lo n)
 | sbe (a q b o z k lo : Nat) (h : g.β k = some (.s (some (b, o)) z lo)) : RepM g (.slice (some ⟨a, q, none⟩) 0 0) (.sb k z lo 0)
 | sb0 (z c k : Nat) (h : g.β k = some (.s none z c)) : RepM g (.slice none 0 0) (.sb k z 0 0)
 | mp (b k : Nat) (h : g.β k = some (.m b)) : RepM g (.map (some b)) (.mp k)
structure Gh.le (g g' : Gh) : Prop where
 D : g.D.le g'.D
 β : ∀ k b, g.β k = some b → g'.β k = some b
theorem RepM.turn {g g' : Gh} (hD : g.D.le g'.D) : ∀ {v : Value} {m : M}, RepM g v m → (∀ k, hasH k m = true → ∀ b, g.β k = some b → g'.β k = some b) → RepM g' v m := by
 intro v m h
 have mem : ∀ (k : Nat) (cs : List M) (j : Nat) (c : M), cs[j]? = some c → hasH k c = true → hasHs k cs = true := by
  intro k cs
  induction cs with
  | nil => intro j c hj; simp at hj
  | cons x r ih =>
   intro j c hj hc
   simp only [hasHs, Bool.or_eq_true]
   cases j with
   | zero => simp at hj; subst hj; exact .inl hc
   | succ j => exact .inr (ih j c (by simpa using hj) hc)
 induction h with
 | any v => intro _; exact .any v
 | t v x h => intro _; exact .t v x (h.mono hD)
 | agg vs cs hl _ ih => intro hk; exact .agg vs cs hl fun j v c hv hc => ih j v c hv hc fun k h => hk k (by simpa [hasH] using mem k cs j c hc h)
 | tight a n xs h hs => intro _; exact .tight a n xs (h.mono hD) hs
 | cp b off cs cell hd hr => intro _; exact .cp b off cs cell (fun j hj => hD _ _ _ (hd j hj)) (fun j c hc => (hr j c hc).mono hD)
 | clo f vs cs hl _ ih => intro hk; exact .clo f vs cs hl fun j v c hv hc => ih j v c hv hc fun k h => hk k (by simpa [hasH] using mem k cs j c hc h)
 | tup vs cs hl _ ih => intro hk; exact .tup vs cs hl fun j v c hv hc => ih j v c hv hc fun k h => hk k (by simpa [hasH] using mem k cs j c hc h)
 | own v id z xs h ho => intro hk; exact .own v id z xs (h.mono hD) (hk id (by simp [hasH]) _ ho)
 | ptr b k off h => intro hk; exact .ptr b k off (hk k (by simp [hasH]) _ h)
 | pe b o z c k i off h => intro hk; exact .pe b o z c k i off (hk k (by simp [hasH]) _ h)
 | sb b o z c k lo n h hc hn => intro hk; exact .sb b o z c k lo n (hk k (by simp [hasH]) _ h) hc hn
 | sbe a q b o z k lo h => intro hk; exact .sbe a q b o z k lo (hk k (by simp [hasH]) _ h)
 | sb0 z c k h => intro hk; exact .sb0 z c k (hk k (by simp [hasH]) _ h)
 | mp b k h => intro hk; exact .mp b k (hk k (by simp [hasH]) _ h)
theorem RepM.mono {g g' : Gh} (hg : g.le g') {v : Value} {m : M} (h : RepM g v m) : RepM g' v m := h.turn hg.D fun k _ b hb => hg.β k b hb
def RepL (g : Gh) (vs : List Value) (cs : List M) : Prop :=
 vs.length = cs.length ∧ ∀ (j : Nat) (v : Value) (c : M), vs[j]? = some v → cs[j]? = some c → RepM g v c
theorem RepL.nil (g : Gh) : RepL g [] [] := ⟨rfl, fun j v c h => by simp at h⟩
theorem RepL.cons {g : Gh} {v : Value} {vs : List Value} {c : M} {cs : List M} (h : RepM g v c) (k : RepL g vs cs) : RepL g (v :: vs) (c :: cs) := by
 refine ⟨by simp [k.1], fun j u d hu hd => ?_⟩
 cases j with
 | zero => simp at hu hd; subst hu; subst hd; exact h
 | succ j => exact k.2 j u d (by simpa using hu) (by simpa using hd)
theorem RepL.cons_inv {g : Gh} {vs : List Value} {c : M} {cs : List M} (h : RepL g vs (c :: cs)) : ∃ v r, vs = v :: r ∧ RepM g v c ∧ RepL g r cs := by
 obtain ⟨hl, h⟩ := h
 cases vs with
 | nil => simp at hl
 | cons v r =>
  refine ⟨v, r, rfl, h 0 v c rfl rfl, by simpa using hl, fun j u d hu hd => h (j + 1) u d (by simpa using hu) (by simpa using hd)⟩
theorem RepL.nil_inv {g : Gh} {vs : List Value} (h : RepL g vs []) : vs = [] := List.length_eq_zero_iff.1 (by simpa using h.1)
theorem RepL.mono {g g' : Gh} (hg : g.le g') {vs : List Value} {cs : List M} (h : RepL g vs cs) : RepL g' vs cs :=
 ⟨h.1, fun j v c hv hc => (h.2 j v c hv hc).mono hg⟩
theorem RepL.append {g : Gh} {vs us : List Value} {cs ds : List M} (h : RepL g vs cs) (k : RepL g us ds) : RepL g (vs ++ us) (cs ++ ds) := by
 induction cs generalizing vs with
 | nil => rw [h.nil_inv]; exact k
 | cons c cs ih =>
  obtain ⟨v, r, rfl, hv, hr⟩ := h.cons_inv
  exact .cons hv (ih hr)
theorem RepL.take {g : Gh} {vs : List Value} {cs : List M} (h : RepL g vs cs) (n : Nat) : RepL g (vs.take n) (cs.take n) := by
 refine ⟨by simp [h.1], fun j v c hv hc => ?_⟩
 rw [List.getElem?_take] at hv hc
 split at hv
 ·rename_i hj; simp only [hj, if_true] at hc; exact h.2 j v c hv hc
 ·cases hv
theorem RepL.drop {g : Gh} {vs : List Value} {cs : List M} (h : RepL g vs cs) (n : Nat) : RepL g (vs.drop n) (cs.drop n) := by
 refine ⟨by simp [h.1], fun j v c hv hc => ?_⟩
 rw [List.getElem?_drop] at hv hc
 exact h.2 _ v c hv hc
theorem RepL.get {g : Gh} {vs : List Value} {cs : List M} (h : RepL g vs cs) {j : Nat} {c : M} (hc : cs[j]? = some c) : ∃ v, vs[j]? = some v ∧ RepM g v c := by
 have hj : j < cs.length := (List.getElem?_eq_some_iff.1 hc).1
 have hj' : j < vs.length := by rw [h.1]; exact hj
 exact ⟨vs[j], List.getElem?_eq_getElem hj', h.2 j _ c (List.getElem?_eq_getElem hj') hc⟩
theorem RepM.agg_inv {g : Gh} {v : Value} {cs : List M} (h : RepM g v (.agg cs)) : ∃ vs, v = .agg vs.toArray ∧ RepL g vs cs := by
 cases h with | agg vs _ hl h => exact ⟨vs, rfl, hl, h⟩
theorem RepM.clo_inv {g : Gh} {v : Value} {f : FuncId} {cs : List M} (h : RepM g v (.clo f cs)) : ∃ vs, v = .func (.func f) #[] vs.toArray ∧ RepL g vs cs := by
 cases h with | clo _ vs _ hl h => exact ⟨vs, rfl, hl, h⟩
theorem RepM.tup_inv {g : Gh} {v : Value} {cs : List M} (h : RepM g v (.tup cs)) : ∃ vs, v = .tuple vs.toArray ∧ RepL g vs cs := by
 cases h with | tup vs _ hl h => exact ⟨vs, rfl, hl, h⟩
theorem RepM.ptr_inv {g : Gh} {v : Value} {k off : Nat} (h : RepM g v (.ptr k off)) : ∃ b, v = .pointer (some ⟨b, off, none⟩) ∧ g.β k = some (.p b) := by
 cases h with | ptr b _ _ h => exact ⟨b, rfl, h⟩
theorem RepM.pe_inv {g : Gh} {v : Value} {k i off : Nat} (h : RepM g v (.pe k i off)) : ∃ b o z c, v = .pointer (some ⟨b, o + (i * z + off), none⟩) ∧ g.β k = some (.s (some (b, o)) z c) := by
 cases h with | pe b o z c _ _ _ h => exact ⟨b, o, z, c, rfl, h⟩
theorem RepM.t_inv {g : Gh} {v : Value} {x : T} (h : RepM g v (.t x)) : RepT g.D v x := by
 cases h with | t _ _ h => exact h
theorem RepT.s_inv {D : Dm} {v u : Value} (h : RepT D v (.s u)) : v = u := by
 cases h; rfl
theorem RepM.s_inv {g : Gh} {v u : Value} (h : RepM g v (.t (.s u))) : v = u := h.t_inv.s_inv
theorem RepM.cp_inv {g : Gh} {v : Value} {cs : List T} (h : RepM g v (.cp cs)) : ∃ (b off : Nat) (cell : Nat → Value), v = .pointer (some ⟨b, off, none⟩) ∧ (∀ j, j < cs.length → g.D b (off + j) = some (cell j)) ∧ (∀ (j : Nat) (c : T), cs[j]? = some c → RepT g.D (cell j) c) := by
 cases h with | cp b off _ cell hD hr => exact ⟨b, off, cell, rfl, hD, hr⟩
theorem RepM.own_inv {g : Gh} {v : Value} {id z : Nat} {xs : List (List T)} (h : RepM g v (.own id z xs)) : RepT g.D v (.sl xs) ∧ g.β id = some (.a v z) := by
 cases h with | own _ _ _ _ h ho => exact ⟨h, ho⟩
theorem RepM.tight_spot {g : Gh} {v : Value} {xs : List (List T)} (h : RepM g v (.tight xs)) : ∀ ad n c, v = .slice (some ad) n c → ad.spot = none := by
 intro ad n c e
 cases h with | tight a n' _ _ hs => cases e; exact hs _ rfl
theorem RepM.tight_inv {g : Gh} {v : Value} {xs : List (List T)} (h : RepM g v (.tight xs)) : ∃ a n, v = .slice a n n ∧ RepT g.D v (.sl xs) := by
 cases h with | tight a n _ h => exact ⟨a, n, rfl, h⟩
theorem RepM.one {g : Gh} {v : Value} {m : M} (h : RepM g v m) (hm : isCell m = true) : v.oneCell' = true := by
 cases h <;> first | rfl | (cases hm; done) | (rename_i h; exact h.one) | (rename_i h _; exact h.one)
theorem RepL.one {g : Gh} {vs : List Value} {cs : List M} (h : RepL g vs cs) (hm : allCell cs = true) : ∀ v ∈ vs, v.oneCell' = true := by
 induction cs generalizing vs with
 | nil => rw [h.nil_inv]; simp
 | cons c cs ih =>
  obtain ⟨v, r, rfl, hv, hr⟩ := h.cons_inv
  simp only [allCell, Bool.and_eq_true] at hm
  intro u hu
  rcases List.mem_cons.1 hu with rfl | hu
  ·exact hv.one hm.1
  ·exact ih hr hm.2 u hu
theorem cells_one {v : Value} (h : v.oneCell' = true) : v.cells.toList = [v] := by
 cases v <;> first | rfl | simp [Value.oneCell'] at h
theorem cellsM_rep {g : Gh} {v : Value} {m : M} {cs : List M} (h : RepM g v m) (hc : cellsM m = some cs) : RepL g v.cells.toList cs ∧ allCell cs = true := by
 have leaf : isCell m = true → [m] = cs → RepL g v.cells.toList cs ∧ allCell cs = true := fun hi he => by
  subst he
  rw [cells_one (h.one hi)]; exact ⟨.cons h (.nil g), by simp [allCell, hi]⟩
 cases m with
 | agg ds =>
  obtain ⟨vs, rfl, hl⟩ := h.agg_inv
  simp only [cellsM] at hc
  cases ha : allCell ds with
  | false => simp [ha] at hc
  | true => simp [ha] at hc; subst hc; exact ⟨by simpa [Value.cells] using hl, ha⟩
 | _ => simp [cellsM, isCell] at hc; try exact leaf rfl hc
def Gh.of (D : Dm) : Gh := ⟨D, fun _ => none, fun _ _ => False⟩
theorem closeT_rep {g : Gh} {v : Value} {m : M} {x : T} (h : RepM g v m) (hc : closeT m = some x) : RepT g.D v x := by
 cases m <;> simp [closeT] at hc <;> subst hc
 ·exact h.t_inv
 ·exact (h.tight_inv).choose_spec.choose_spec.2
 ·exact h.own_inv.1
theorem closeTs_rep {g : Gh} {vs : List Value} {cs : List M} {xs : List T} (h : RepL g vs cs) (hc : closeTs cs = some xs) :
  vs.length = xs.length ∧ ∀ (j : Nat) (v : Value) (x : T), vs[j]? = some v → xs[j]? = some x → RepT g.D v x := by
 induction cs generalizing vs xs with
 | nil => rw [h.nil_inv]; simp [closeTs] at hc; subst hc; exact ⟨rfl, fun j v x hv => by simp at hv⟩
 | cons c cs ih =>
  obtain ⟨v, r, rfl, hv, hr⟩ := h.cons_inv
  simp only [closeTs] at hc
  split at hc
  ·rename_i x ys hx hys
   cases hc
   obtain ⟨hl, hall⟩ := ih hr hys
   refine ⟨by simp [hl], fun j u y hu hy => ?_⟩
   cases j with
   | zero => simp at hu hy; subst hu; subst hy; exact closeT_rep hv hx
   | succ j => exact hall j u y (by simpa using hu) (by simpa using hy)
  ·cases hc
end Go.Bm
/- What boxes hold; what holds of a frame while it runs. -/
namespace Go.Bm
open Go.RowKit (Below)
def OwP (D : Dm) (w : World) (v : Value) (z : Nat) (F : Foot) : Prop :=
 ∃ a n c, v = .slice a n c ∧ ((c = n ∧ ∀ x, ¬ F x) ∨ ∃ b e cur, a = some ⟨b, 0, none⟩ ∧ w.heap[b]? = some (.cells cur e (0, 0)) ∧
  0 < z ∧ 0 < n ∧ n ≤ c ∧ c ≤ maxLen ∧ cur.size = c * z ∧ (∀ j, D b j = if j < n * z then cur[j]? else none) ∧ ∀ x, F x ↔ x = b)
inductive OwN (D : Dm) (w : World) : M → Value → Foot → Prop
 | leaf (m : M) (v : Value) (F : Foot) (h : RepM (Gh.of D) v m) (hF : ∀ x, ¬ F x) : OwN D w m v F
 | os (b : Nat) (ty : TypeId) (vs : List Value) (cs : List M) (A : Nat → Foot) (F : Foot) (hl : vs.length = cs.length)
   (hb : w.heap[b]? = some (.cells vs.toArray ty (0, 0))) (hd : ∀ j, D b j = none) (hA : ∀ j x, A j x → j < cs.length ∧ x ≠ b)
   (hdis : ∀ i j x, A i x → A j x → i = j) (hF : ∀ x, F x ↔ x = b ∨ ∃ j, A j x)
   (h : ∀ (j : Nat) (v : Value) (c : M), vs[j]? = some v → cs[j]? = some c → OwN D w c v (A j)) : OwN D w (.os cs) (.pointer (some ⟨b, 0, none⟩)) F
 | oa0 (z : Nat) (F : Foot) (hF : ∀ x, ¬ F x) : OwN D w (.oa [] z []) (.slice none 0 0) F
 | oae (a q z : Nat) (F : Foot) (hF : ∀ x, ¬ F x) : OwN D w (.oa [] z []) (.slice (some ⟨a, q, none⟩) 0 0) F
 | oa (b o c z : Nat) (cur : Array Value) (ty : TypeId) (xs : List (List M)) (A : Nat → Nat → Foot) (F : Foot)
   (hb : w.heap[b]? = some (.cells cur ty (0, 0))) (hd : ∀ j, D b j = none) (hs : cur.size = o + c * z) (h1c : ∀ u ∈ cur.toList, u.oneCell' = true) (h0 : 0 < z) (hc : xs.length ≤ c ∧ xs.length ≤ 274877906944 ∧ c ≤ maxLen)
   (hz : ∀ (i : Nat) (cs : List M), xs[i]? = some cs → cs.length = z) (hA : ∀ i j x, A i j x → (i < xs.length ∧ j < z) ∧ x ≠ b)
   (hdis : ∀ i j i' j' x, A i j x → A i' j' x → i = i' ∧ j = j') (hF : ∀ x, F x ↔ x = b ∨ ∃ i j, A i j x)
   (h : ∀ (i j : Nat) (cs : List M) (c : M) (v : Value), xs[i]? = some cs → cs[j]? = some c → cur[o + (i * z + j)]? = some v → OwN D w c v (A i j)) :
   OwN D w (.oa [] z xs) (.slice (some ⟨b, o, none⟩) xs.length c) F
 | op (v : Value) (z : Nat) (xs : List (List T)) (F : Foot) (h : RepT D v (.sl xs)) (ho : OwP D w v z F) : OwN D w (.op z xs) v F
 | om (b clock : Nat) (entries : Array MapEntry) (es : List (Value × M)) (A : Nat → Foot) (F : Foot) (hl : entries.size = es.length)
   (hb : w.heap[b]? = some (.map entries clock)) (hd : ∀ j, D b j = none) (hA : ∀ j x, A j x → j < es.length ∧ x ≠ b)
   (hdis : ∀ i j x, A i x → A j x → i = j) (hF : ∀ x, F x ↔ x = b ∨ ∃ j, A j x) (hk : ∀ (i : Nat) (e : MapEntry) (kv : Value × M), entries[i]? = some e → es[i]? = some kv → e.key = kv.1)
   (h : ∀ (i : Nat) (e : MapEntry) (kv : Value × M), entries[i]? = some e → es[i]? = some kv → OwN D w kv.2 e.val (A i)) : OwN D w (.om [] es) (.map (some b)) F
def OwC (g : Gh) (w : World) (m : M) (v : Value) (F : Foot) : Prop := OwN g.D w m v F ∨ (RepM g v m ∧ ∀ x, ¬ F x)
def Gh.only (g : Gh) (hs : List Nat) : Gh := ⟨g.D, fun k => if memN k hs then g.β k else none, g.φ⟩
inductive BoxOk (g : Gh) (w : World) : M → Hd → Foot → Prop
 | os (b : Nat) (ty : TypeId) (vs : List Value) (cs : List M) (A : Nat → Foot) (F : Foot) (hl : vs.length = cs.length)
   (hb : w.heap[b]? = some (.cells vs.toArray ty (0, 0))) (hd : ∀ j, g.D b j = none) (hA : ∀ j x, A j x → j < cs.length ∧ x ≠ b)
   (hdis : ∀ i j x, A i x → A j x → i = j) (hF : ∀ x, F x ↔ x = b ∨ ∃ j, A j x)
   (h : ∀ (j : Nat) (v : Value) (c : M), vs[j]? = some v → cs[j]? = some c → OwC g w c v (A j)) : BoxOk g w (.os cs) (.p b) F
 | oa0 (z c : Nat) (hs : List Nat) (F : Foot) (hF : ∀ x, ¬ F x) : BoxOk g w (.oa hs z []) (.s none z c) F
 | oae (a q z : Nat) (hs : List Nat) (F : Foot) (hF : ∀ x, ¬ F x) : BoxOk g w (.oa hs z []) (.s (some (a, q)) z 0) F
 | oa (b o c z : Nat) (hs' : List Nat) (cur : Array Value) (ty : TypeId) (xs : List (List M)) (A : Nat → Nat → Foot) (F : Foot)
   (hb : w.heap[b]? = some (.cells cur ty (0, 0))) (hd : ∀ j, g.D b j = none) (hs : cur.size = o + c * z) (h1c : ∀ u ∈ cur.toList, u.oneCell' = true) (h0 : 0 < z) (hc : xs.length ≤ c ∧ xs.length ≤ 274877906944 ∧ c ≤ maxLen)
   (hz : ∀ (i : Nat) (cs : List M), xs[i]? = some cs → cs.length = z) (hA : ∀ i j x, A i j x → (i < xs.length ∧ j < z) ∧ x ≠ b)
   (hdis : ∀ i j i' j' x, A i j x → A i' j' x → i = i' ∧ j = j') (hF : ∀ x, F x ↔ x = b ∨ ∃ i j, A i j x)
   (h : ∀ (i j : Nat) (cs : List M) (c : M) (v : Value), xs[i]? = some cs → cs[j]? = some c → cur[o + (i * z + j)]? = some v → OwC (g.only hs') w c v (A i j)) :
   BoxOk g w (.oa hs' z xs) (.s (some (b, o)) z c) F
 | op (v : Value) (z : Nat) (xs : List (List T)) (F : Foot) (h : RepT g.D v (.sl xs)) (ho : OwP g.D w v z F) : BoxOk g w (.op z xs) (.a v z) F
 | om (b clock : Nat) (hs : List Nat) (entries : Array MapEntry) (es : List (Value × M)) (A : Nat → Foot) (F : Foot) (hl : entries.size = es.length)
   (hb : w.heap[b]? = some (.map entries clock)) (hd : ∀ j, g.D b j = none) (hA : ∀ j x, A j x → j < es.length ∧ x ≠ b)
   (hdis : ∀ i j x, A i x → A j x → i = j) (hF : ∀ x, F x ↔ x = b ∨ ∃ j, A j x) (hk : ∀ (i : Nat) (e : MapEntry) (kv : Value × M), entries[i]? = some e → es[i]? = some kv → e.key = kv.1)
   (h : ∀ (i : Nat) (e : MapEntry) (kv : Value × M), entries[i]? = some e → es[i]? = some kv → OwC (g.only hs) w kv.2 e.val (A i)) : BoxOk g w (.om hs es) (.m b) F
def Keep (D D' : Dm) (w w' : World) (F : Foot) : Prop := ∀ x, F x → w'.heap[x]? = w.heap[x]? ∧ ∀ j, D' x j = D x j
theorem OwP.keep {D D' : Dm} {w w' : World} {v : Value} {z : Nat} {F : Foot} (h : OwP D w v z F) (k : Keep D D' w w' F) : OwP D' w' v z F := by
 obtain ⟨a, n, c, rfl, h | ⟨b, e, cur, rfl, hb, hz, hn, hc, hm, hs, hD, hF⟩⟩ := h
 ·exact ⟨a, n, c, rfl, .inl h⟩
 ·have := k b ((hF b).2 rfl)
  exact ⟨_, n, c, rfl, .inr ⟨b, e, cur, rfl, this.1.trans hb, hz, hn, hc, hm, hs, fun j => (this.2 j).trans (hD j), hF⟩⟩
theorem RepM.of_le {D : Dm} {g : Gh} (hD : D.le g.D) {v : Value} {m : M} (h : RepM (Gh.of D) v m) : RepM g v m :=
 h.mono ⟨hD, fun k b hb => by simp [Gh.of] at hb⟩
theorem OwN.keep {D D' : Dm} {w w' : World} (hD : D.le D') {m : M} {v : Value} {F : Foot} (h : OwN D w m v F) : Keep D D' w w' F → OwN D' w' m v F := by
 induction h with
 | leaf m v F h hF => intro _; exact .leaf m v F (h.of_le hD) hF
 | os b ty vs cs A F hl hb hd hA hdis hF h ih =>
  intro k
  have kb := k b ((hF b).2 (.inl rfl))
  exact .os b ty vs cs A F hl (kb.1.trans hb) (fun j => (kb.2 j).trans (hd j)) hA hdis hF fun j v c hv hc => ih j v c hv hc fun x hx => k x ((hF x).2 (.inr ⟨j, hx⟩))
 | oa0 z F hF => intro _; exact .oa0 z F hF
 | oae a q z F hF => intro _; exact .oae a q z F hF
 | oa b o c z cur ty xs A F hb hd hs h1c h0 hc hz hA hdis hF h ih =>
  intro k
  have kb := k b ((hF b).2 (.inl rfl))
  exact .oa b o c z cur ty xs A F (kb.1.trans hb) (fun j => (kb.2 j).trans (hd j)) hs h1c h0 hc hz hA hdis hF fun i j cs c v h1 h2 h3 => ih i j cs c v h1 h2 h3 fun x hx => k x ((hF x).2 (.inr ⟨i, j, hx⟩))
 | op v z xs F h ho => intro k; exact .op v z xs F (h.mono hD) (ho.keep k)
 | om b clock entries es A F hl hb hd hA hdis hF hk h ih =>
  intro k
  have kb := k b ((hF b).2 (.inl rfl))
  exact .om b clock entries es A F hl (kb.1.trans hb) (fun j => (kb.2 j).trans (hd j)) hA hdis hF hk fun i e kv h1 h2 => ih i e kv h1 h2 fun x hx => k x ((hF x).2 (.inr ⟨i, hx⟩))
theorem OwN.foot {D : Dm} {w : World} {m : M} {v : Value} {F G : Foot} (h : OwN D w m v F) (e : ∀ x, F x ↔ G x) : OwN D w m v G := by
 have : F = G := funext fun x => propext (e x)
 exact this ▸ h
theorem OwC.keep {g g' : Gh} {w w' : World} {m : M} {v : Value} {F : Foot} (h : OwC g w m v F) (hD : g.D.le g'.D) (hβ : ∀ k, hasH k m = true → ∀ b, g.β k = some b → g'.β k = some b)
  (k : Keep g.D g'.D w w' F) : OwC g' w' m v F :=
 h.imp (fun h => h.keep hD k) fun ⟨h, hF⟩ => ⟨h.turn hD hβ, hF⟩
theorem memN_t : ∀ {l : List Nat} {d : Nat}, memN d l = true → d ∈ l
 | [], d, h => by simp [memN] at h
 | x :: r, d, h => by
  simp only [memN, Bool.or_eq_true] at h
  rcases h with h | h
  ·rw [nbeq_t h]; exact List.mem_cons_self
  ·exact List.mem_cons_of_mem _ (memN_t h)
theorem memN_of : ∀ {l : List Nat} {d : Nat}, d ∈ l → memN d l = true
 | x :: r, d, h => by
  simp only [memN, Bool.or_eq_true]
  rcases List.mem_cons.1 h with rfl | h
  ·exact .inl (Nat.beq_refl _)
  ·exact .inr (memN_of h)
theorem hasHs_of {k : Nat} : ∀ {cs : List M} {j : Nat} {c : M}, cs[j]? = some c → hasH k c = true → hasHs k cs = true
 | [], j, c, hj, _ => by simp at hj
 | x :: r, j, c, hj, hc => by
  simp only [hasHs, Bool.or_eq_true]
  cases j with
  | zero => simp at hj; subst hj; exact .inl hc
  | succ j => exact .inr (hasHs_of (by simpa using hj) hc)
theorem only_turn {g g' : Gh} {hs : List Nat} (hβ : ∀ k, memN k hs = true → ∀ b, g.β k = some b → g'.β k = some b) : ∀ k b, (g.only hs).β k = some b → (g'.only hs).β k = some b := by
 intro k b h
 unfold Gh.only at *
 simp only at *
 split at h
 ·rename_i e; rw [if_pos e]; exact hβ k e b h
 ·cases h
theorem BoxOk.keep {g g' : Gh} {w w' : World} {o : M} {h : Hd} {F : Foot} (hb : BoxOk g w o h F) (hD : g.D.le g'.D) (hβ : ∀ k, boxH k o = true → ∀ b, g.β k = some b → g'.β k = some b)
  (k : Keep g.D g'.D w w' F) : BoxOk g' w' o h F := by
 cases hb with
 | os b ty vs cs A F hl hb hd hA hdis hF h =>
  have kb := k b ((hF b).2 (.inl rfl))
  exact .os b ty vs cs A F hl (kb.1.trans hb) (fun j => (kb.2 j).trans (hd j)) hA hdis hF fun j v c hv hc =>
   (h j v c hv hc).keep hD (fun q hq => hβ q (by simpa [boxH] using hasHs_of hc hq)) fun x hx => k x ((hF x).2 (.inr ⟨j, hx⟩))
 | oa0 z c hs F hF => exact .oa0 z c hs F hF
 | oae a q z hs F hF => exact .oae a q z hs F hF
 | oa b o c z hs' cur ty xs A F hb hd hs h1c h0 hc hz hA hdis hF h =>
  have kb := k b ((hF b).2 (.inl rfl))
  exact .oa b o c z hs' cur ty xs A F (kb.1.trans hb) (fun j => (kb.2 j).trans (hd j)) hs h1c h0 hc hz hA hdis hF fun i j cs c v h1 h2 h3 =>
   (h i j cs c v h1 h2 h3).keep hD (fun q _ => only_turn (g := g) (g' := g') (fun k hk => hβ k (by simpa [boxH] using hk)) q) fun x hx => k x ((hF x).2 (.inr ⟨i, j, hx⟩))
 | op v z xs F h ho => exact .op v z xs F (h.mono hD) (ho.keep k)
 | om b clock hs entries es A F hl hb hd hA hdis hF hk h =>
  have kb := k b ((hF b).2 (.inl rfl))
  exact .om b clock hs entries es A F hl (kb.1.trans hb) (fun j => (kb.2 j).trans (hd j)) hA hdis hF hk fun i e kv h1 h2 =>
   (h i e kv h1 h2).keep hD (fun q _ => only_turn (g := g) (g' := g') (fun k hk => hβ k (by simpa [boxH] using hk)) q) fun x hx => k x ((hF x).2 (.inr ⟨i, hx⟩))
theorem heap_lt {w : World} {b : Nat} {o : Obj} (h : w.heap[b]? = some o) : b < w.heap.size := (Array.getElem?_eq_some_iff.1 h).1
theorem OwP.lt {D : Dm} {w : World} {v : Value} {z : Nat} {F : Foot} (h : OwP D w v z F) : ∀ x, F x → x < w.heap.size := by
 obtain ⟨a, n, c, rfl, ⟨_, h⟩ | ⟨b, e, cur, rfl, hb, _, _, _, _, _, _, hF⟩⟩ := h
 ·intro x hx; exact absurd hx (h x)
 ·intro x hx; rw [(hF x).1 hx]; exact heap_lt hb
theorem OwN.lt {D : Dm} {w : World} {m : M} {v : Value} {F : Foot} (h : OwN D w m v F) : ∀ x, F x → x < w.heap.size := by
 induction h with
 | leaf m v F h hF => intro x hx; exact absurd hx (hF x)
 | os b ty vs cs A F hl hb hd hA hdis hF h ih =>
  intro x hx
  rcases (hF x).1 hx with rfl | ⟨j, hj⟩
  ·exact heap_lt hb
  ·have hj' := (hA j x hj).1
   exact ih j _ _ (List.getElem?_eq_getElem (by omega)) (List.getElem?_eq_getElem hj') x hj
 | oa0 z F hF => intro x hx; exact absurd hx (hF x)
 | oae a q z F hF => intro x hx; exact absurd hx (hF x)
 | oa b o c z cur ty xs A F hb hd hs h1c h0 hc hz hA hdis hF h ih =>
  intro x hx
  rcases (hF x).1 hx with rfl | ⟨i, j, hj⟩
  ·exact heap_lt hb
  ·obtain ⟨hi, hjz⟩ := (hA i j x hj).1
   have e1 := List.getElem?_eq_getElem hi
   have hlt : o + (i * z + j) < cur.size := by
    have : (i + 1) * z ≤ c * z := Nat.mul_le_mul_right z (by omega)
    rw [Nat.add_mul] at this; omega
   exact ih i j _ _ _ e1 (List.getElem?_eq_getElem (by rw [hz i _ e1]; exact hjz)) (Array.getElem?_eq_getElem hlt) x hj
 | op v z xs F h ho => exact ho.lt
 | om b clock entries es A F hl hb hd hA hdis hF hk h ih =>
  intro x hx
  rcases (hF x).1 hx with rfl | ⟨j, hj⟩
  ·exact heap_lt hb
  ·have hj' := (hA j x hj).1
   exact ih j _ _ (Array.getElem?_eq_getElem (by omega)) (List.getElem?_eq_getElem hj') x hj
theorem OwC.lt {g : Gh} {w : World} {m : M} {v : Value} {F : Foot} (h : OwC g w m v F) : ∀ x, F x → x < w.heap.size := by
 rcases h with h | ⟨_, h⟩
 ·exact h.lt
 ·intro x hx; exact absurd hx (h x)
theorem BoxOk.lt {g : Gh} {w : World} {o : M} {h : Hd} {F : Foot} (h : BoxOk g w o h F) : ∀ x, F x → x < w.heap.size := by
 intro x hx
 cases h with
 | os b ty vs cs A F hl hb hd hA hdis hF h =>
  rcases (hF x).1 hx with rfl | ⟨j, hj⟩
  ·exact heap_lt hb
  ·have hj' := (hA j x hj).1
   exact (h j _ _ (List.getElem?_eq_getElem (by omega)) (List.getElem?_eq_getElem hj')).lt x hj
 | oa0 z c hs F hF => exact absurd hx (hF x)
 | oae a q z hs F hF => exact absurd hx (hF x)
 | oa b o c z hs' cur ty xs A F hb hd hs h1c h0 hc hz hA hdis hF h =>
  rcases (hF x).1 hx with rfl | ⟨i, j, hj⟩
  ·exact heap_lt hb
  ·obtain ⟨hi, hjz⟩ := (hA i j x hj).1
   have e1 := List.getElem?_eq_getElem hi
   have hlt : o + (i * z + j) < cur.size := by
    have : (i + 1) * z ≤ c * z := Nat.mul_le_mul_right z (by omega)
    rw [Nat.add_mul] at this; omega
   exact (h i j _ _ _ e1 (List.getElem?_eq_getElem (by rw [hz i _ e1]; exact hjz)) (Array.getElem?_eq_getElem hlt)).lt x hj
 | op v z xs F h ho => exact ho.lt x hx
 | om b clock hs entries es A F hl hb hd hA hdis hF hk h =>
  rcases (hF x).1 hx with rfl | ⟨j, hj⟩
  ·exact heap_lt hb
  ·have hj' := (hA j x hj).1
   exact (h j _ _ (Array.getElem?_eq_getElem (by omega)) (List.getElem?_eq_getElem hj')).lt x hj
structure Belows (X : Foot) (w w' : World) : Prop where
 os : w'.os = w.os
 tape : w'.tape = w.tape
 output : w'.output = w.output
 size : w.heap.size ≤ w'.heap.size
 block : ∀ k, k < w.heap.size → ¬ X k → w'.heap[k]? = w.heap[k]?
theorem Belows.refl (X : Foot) (w : World) : Belows X w w := ⟨rfl, rfl, rfl, Nat.le_refl _, fun _ _ _ => rfl⟩
structure LInv (g : Gh) (B : List (Nat × M)) (w : World) : Prop where
 bx : ∀ k o, lookB B k = some o → ∃ h, g.β k = some h ∧ BoxOk g w o h (g.φ k)
 sep : ∀ k k' o o' b, lookB B k = some o → lookB B k' = some o' → g.φ k b → g.φ k' b → k = k'
 dw : g.D.inW w
structure Env where
 df : List Deferred
 bl : Nat → Option Hd
structure FInv (DF : Env) (D0 : Dm) (w0 : World) (X : Foot) (g : Gh) (st : St) (a : Act) (w : World) : Prop extends LInv g st.bx w where
 n : a.tmps.size = st.n
 sg : ∀ t, RepM g (a.tmps.getD t undef) (look st.sg t)
 new : ∀ k o b, lookB st.bx k = some o → k < RB → g.φ k b → w0.heap.size ≤ b ∨ X b
 d0 : D0.le g.D
 dnew : ∀ b j v, g.D b j = some v → D0 b j = some v ∨ w0.heap.size ≤ b ∨ X b
 below : Belows X w0 w
 df : a.defers = DF.df
 lb : ∀ k, CB ≤ k → g.β k = DF.bl k
end Go.Bm
/- What keeps a frame's invariant. -/
namespace Go.Bm
open Go.RowKit (Below)
theorem lookB_append (l r : List (Nat × M)) (k : Nat) : lookB (l ++ r) k = match lookB l k with | some o => some o | none => lookB r k := by
 induction l with
 | nil => rfl
 | cons p l ih =>
  obtain ⟨j, c⟩ := p
  simp only [List.cons_append, lookB]
  cases Nat.beq j k with
  | true => rfl
  | false => simpa using ih
theorem lookB_mem : ∀ {l : List (Nat × M)} {k : Nat} {o : M}, lookB l k = some o → k ∈ names l
 | (j, c) :: r, k, o, h => by
  simp only [lookB] at h
  cases e : Nat.beq j k with
  | true => rw [nbeq_t e]; exact List.mem_cons_self
  | false =>
   rw [e] at h
   exact List.mem_cons_of_mem _ (lookB_mem (l := r) h)
theorem lookB_not : ∀ {l : List (Nat × M)} {k : Nat}, lookB l k = none → k ∉ names l
 | [], k, _, hk => by simp [names] at hk
 | (j, c) :: r, k, h, hk => by
  simp only [lookB] at h
  cases e : Nat.beq j k with
  | true => rw [e] at h; cases h
  | false =>
   rw [e] at h
   have : k = j ∨ k ∈ names r := by simpa [names] using hk
   rcases this with rfl | h'
   ·exact absurd (Nat.beq_refl k) (by rw [e]; simp)
   ·exact lookB_not h h'
theorem dropB_look (k : Nat) : ∀ (bx : List (Nat × M)) (j : Nat), lookB (dropB k bx) j = if j = k then none else lookB bx j
 | [], j => by simp [dropB, lookB]
 | (i, c) :: r, j => by
  simp only [dropB]
  cases e : Nat.beq i k with
  | true =>
   have e' := nbeq_t e
   subst e'
   simp only [cond_true]
   rw [dropB_look i r j]
   by_cases h : j = i
   ·rw [if_pos h, if_pos h]
   ·rw [if_neg h, if_neg h]; simp [lookB, nbeq_of_ne (fun h' => h h'.symm : i ≠ j)]
  | false =>
   simp only [cond_false, lookB]
   by_cases h : i = j
   ·subst h
    rw [if_neg (nbeq_f e), Nat.beq_refl]; rfl
   ·rw [nbeq_of_ne h]; exact dropB_look k r j
theorem dropBs_look : ∀ (l : List Nat) (bx : List (Nat × M)) (j : Nat), lookB (dropBs l bx) j = if j ∈ l then none else lookB bx j
 | [], bx, j => by simp [dropBs]
 | k :: r, bx, j => by
  simp only [dropBs, dropB_look, dropBs_look r bx j, List.mem_cons]
  by_cases h : j = k
  ·simp [h]
  ·by_cases h' : j ∈ r <;> simp [h, h']
def Eff.bx (e : Eff) (B : List (Nat × M)) : List (Nat × M) := e.new ++ (e.put ++ dropBs (e.del ++ (names e.put ++ names e.new)) B)
theorem eff_look (e : Eff) (B : List (Nat × M)) (k : Nat) : lookB (e.bx B) k =
  match lookB e.new k with
  | some o => some o
  | none => match lookB e.put k with
   | some o => some o
   | none => if k ∈ e.del then none else lookB B k := by
 unfold Eff.bx
 rw [lookB_append, lookB_append, dropBs_look]
 cases h1 : lookB e.new k with
 | some o => rfl
 | none =>
  cases h2 : lookB e.put k with
  | some o => rfl
  | none =>
   have e1 := lookB_not h1
   have e2 := lookB_not h2
   simp [e1, e2]
theorem sgH_look {k : Nat} : ∀ {sg : List (Nat × M)}, sgH k sg = false → ∀ t, hasH k (look sg t) = false
 | [], _, t => by simp [look, hasH]
 | (j, m) :: r, h, t => by
  simp only [sgH, Bool.or_eq_false_iff] at h
  simp only [look]
  cases e : Nat.beq j t with
  | true => simpa using h.1
  | false => simpa using sgH_look h.2 t
theorem bxH_look {k : Nat} : ∀ {bx : List (Nat × M)}, bxH k bx = false → ∀ t c, lookB bx t = some c → boxH k c = false
 | [], _, t, c, hc => by simp [lookB] at hc
 | (j, m) :: r, h, t, c, hc => by
  simp only [bxH, Bool.or_eq_false_iff] at h
  simp only [lookB] at hc
  cases e : Nat.beq j t with
  | true => simp [e] at hc; subst hc; exact h.1
  | false => simp [e] at hc; exact bxH_look h.2 t c hc
theorem allFree_of {st : St} : ∀ {l : List Nat}, allFree st l = true → ∀ k ∈ l, free st k = true
 | x :: r, h, k, hk => by
  simp only [allFree, Bool.and_eq_true] at h
  rcases List.mem_cons.1 hk with rfl | hk
  ·exact h.1
  ·exact allFree_of h.2 k hk
theorem free_spec {st : St} {k : Nat} (h : free st k = true) : lookB st.bx k = none ∧ sgH k st.sg = false ∧ bxH k st.bx = false ∧ k < CB := by
 simp only [free, Bool.and_eq_true, Bool.not_eq_true'] at h
 refine ⟨?_, h.1.2, h.2, Nat.le_of_ble_eq_true h.1.1.1⟩
 cases e : lookB st.bx k with
 | none => rfl
 | some c => rw [e] at h; simp at h
structure FreeP (st : St) (k : Nat) : Prop where
 lt : k < CB
 b : lookB st.bx k = none
 s : ∀ t, hasH k (look st.sg t) = false
 x : ∀ q o, lookB st.bx q = some o → boxH k o = false
theorem free_P {st : St} {k : Nat} (h : free st k = true) : FreeP st k :=
 ⟨(free_spec h).2.2.2, (free_spec h).1, sgH_look (free_spec h).2.1, fun q o hq => bxH_look (free_spec h).2.2.1 q o hq⟩
theorem does_spec {st st' : St} {d : Option Nat} {e : Eff} (h : st.does d e = some st') :
  (∀ k ∈ names e.new, free st k = true) ∧ distinct (names e.new) = true ∧ st'.n = st.n ∧ st'.bx = e.bx st.bx ∧
  ((d = none ∧ st'.sg = st.sg) ∨ ∃ t, d = some t ∧ t < st.n ∧ st'.sg = (t, e.val) :: st.sg) := by
 unfold St.does at h
 cases hf : allFree st (names e.new) && distinct (names e.new) with
 | false => simp [hf] at h
 | true =>
  simp only [hf, cond_true] at h
  simp only [Bool.and_eq_true] at hf
  cases d with
  | none => simp at h; subst h; exact ⟨allFree_of hf.1, hf.2, rfl, rfl, .inl ⟨rfl, rfl⟩⟩
  | some t =>
   simp only at h
   cases ht : Nat.blt t st.n with
   | false => simp [ht] at h
   | true =>
    simp [ht] at h; subst h
    exact ⟨allFree_of hf.1, hf.2, rfl, rfl, .inr ⟨t, rfl, by simpa using ht, rfl⟩⟩
theorem sg_put {g : Gh} {n : Nat} {sg : List (Nat × M)} {a : Act} (hn : a.tmps.size = n) (h : ∀ t, RepM g (a.tmps.getD t undef) (look sg t)) {d : Nat} {v : Value} {m : M} (hm : RepM g v m) (hd : d < n) :
  (a.put (some d) v).tmps.size = n ∧ ∀ t, RepM g ((a.put (some d) v).tmps.getD t undef) (look ((d, m) :: sg) t) := by
 refine ⟨by simpa [Act.put] using hn, fun t => ?_⟩
 simp only [look]
 by_cases e : d = t
 ·subst e
  have : (a.put (some d) v).tmps.getD d undef = v := by
   have : d < a.tmps.size := by omega
   simp [Act.put, this]
  rw [this, Nat.beq_refl, cond_true]
  exact hm
 ·have h1 : (a.put (some d) v).tmps.getD t undef = a.tmps.getD t undef := by
   simp [Act.put, Array.getElem?_setIfInBounds_ne e]
  rw [h1, nbeq_of_ne e, cond_false]
  exact h t
structure Does (w0 : World) (X : Foot) (D0 : Dm) (g : Gh) (B : List (Nat × M)) (w : World) (e : Eff) (g' : Gh) (v : Value) (w' : World) : Prop where
 D : g.D.le g'.D
 inW : g'.D.inW w'
 β : ∀ k, k ∉ names e.new → g'.β k = g.β k
 val : RepM g' v e.val
 box : ∀ k o, (lookB e.new k = some o ∨ (lookB e.new k = none ∧ lookB e.put k = some o)) → ∃ h, g'.β k = some h ∧ BoxOk g' w' o h (g'.φ k)
 keep : ∀ k o, lookB B k = some o → k ∉ e.del → k ∉ names e.put → k ∉ names e.new → g'.φ k = g.φ k ∧ Keep g.D g'.D w w' (g.φ k)
 src : ∀ k b, k ∈ names e.new ∨ k ∈ names e.put → g'.φ k b → w.heap.size ≤ b ∨ ∃ k0 o0, lookB B k0 = some o0 ∧ (k0 ∈ e.del ∨ k0 ∈ names e.put) ∧ (k < RB → k0 < RB) ∧ g.φ k0 b
 dis : ∀ k k' b, (k ∈ names e.new ∨ k ∈ names e.put) → (k' ∈ names e.new ∨ k' ∈ names e.put) → g'.φ k b → g'.φ k' b → k = k'
 dnew : ∀ b j u, g'.D b j = some u → D0 b j = some u ∨ w0.heap.size ≤ b ∨ X b
 below : Belows X w0 w'
theorem FInv.doesP {D0 : Dm} {w0 : World} {X : Foot} {DF : Env} {g g' : Gh} {st st' : St} {a : Act} {w w' : World} {d : Option Nat} {e : Eff} {v : Value} (h : FInv DF D0 w0 X g st a w)
  (hfree : ∀ k ∈ names e.new, FreeP st k) (hn : st'.n = st.n) (hbx : ∀ k, lookB st'.bx k = lookB (e.bx st.bx) k)
  (hsg : (d = none ∧ ∀ t, look st'.sg t = look st.sg t) ∨ ∃ t, d = some t ∧ t < st.n ∧ ∀ q, look st'.sg q = look ((t, e.val) :: st.sg) q)
  (k : Does w0 X D0 g st.bx w e g' v w') : FInv DF D0 w0 X g' st' (a.put d v) w' := by
 have hβ : ∀ q, (∀ x ∈ names e.new, q ≠ x) → g'.β q = g.β q := fun q hq => k.β q fun hm => hq q hm rfl
 have hturn : ∀ m, (∀ x ∈ names e.new, hasH x m = false) → ∀ u, RepM g u m → RepM g' u m := fun m hm u hu =>
  hu.turn k.D fun q hq b hb => by rw [hβ q fun x hx e => by subst e; rw [hm q hx] at hq; cases hq]; exact hb
 have hsg' : ∀ t, RepM g' (a.tmps.getD t undef) (look st.sg t) := fun t => hturn _ (fun x hx => (hfree x hx).s t) _ (h.sg t)
 have old : ∀ q o, lookB (e.bx st.bx) q = some o → (q ∈ names e.new ∨ q ∈ names e.put) ∨ (lookB st.bx q = some o ∧ q ∉ e.del ∧ q ∉ names e.put ∧ q ∉ names e.new) := fun q o hq => by
  rw [eff_look] at hq
  cases h1 : lookB e.new q with
  | some x => exact .inl (.inl (lookB_mem h1))
  | none =>
   cases h2 : lookB e.put q with
   | some x => exact .inl (.inr (lookB_mem h2))
   | none =>
    simp only [h1, h2] at hq
    split at hq
    ·cases hq
    ·rename_i hd; exact .inr ⟨hq, hd, lookB_not h2, lookB_not h1⟩
 have bxs : ∀ q o, lookB st'.bx q = some o → ∃ h, g'.β q = some h ∧ BoxOk g' w' o h (g'.φ q) := by
  intro q o hq
  rw [hbx] at hq
  rcases old q o hq with hm | ⟨h1, h2, h3, h4⟩
  ·refine k.box q o ?_
   rw [eff_look] at hq
   cases h1 : lookB e.new q with
   | some x => simp only [h1] at hq; exact .inl hq
   | none =>
    cases h2 : lookB e.put q with
    | some x => simp only [h1, h2] at hq; exact .inr ⟨rfl, hq⟩
    | none =>
     rcases hm with hm | hm
     ·exact absurd hm (lookB_not h1)
     ·exact absurd hm (lookB_not h2)
  ·obtain ⟨hd, hb, hok⟩ := h.bx q o h1
   obtain ⟨hφ, hk⟩ := k.keep q o h1 h2 h3 h4
   refine ⟨hd, by rw [k.β q h4]; exact hb, ?_⟩
   rw [hφ]
   exact hok.keep k.D (fun x hx b hb' => by rw [hβ x fun y hy e => by subst e; have := (hfree x hy).x q o h1; rw [this] at hx; cases hx]; exact hb') hk
 have olds : ∀ q o b, lookB st.bx q = some o → g.φ q b → b < w.heap.size := fun q o b hq hb => by
  obtain ⟨hd, _, hok⟩ := h.bx q o hq
  exact hok.lt b hb
 have hL : LInv g' st'.bx w' := by
  refine ⟨bxs, fun q q' o o' b hq hq' hb hb' => ?_, k.inW⟩
  rw [hbx] at hq hq'
  have cross : ∀ x y oy, (x ∈ names e.new ∨ x ∈ names e.put) → g'.φ x b → lookB st.bx y = some oy → y ∉ e.del → y ∉ names e.put → y ∉ names e.new → g'.φ y b → False := fun x y oy hx hbx' hy h2 h3 h4 hby => by
   rw [(k.keep y oy hy h2 h3 h4).1] at hby
   rcases k.src x b hx hbx' with hlt | ⟨k0, o0, h5, h6, h7, h8⟩
   ·have := olds y oy b hy hby; omega
   ·have := h.sep k0 y o0 oy b h5 hy h8 hby
    subst this
    rcases h6 with h6 | h6
    ·exact h2 h6
    ·exact h3 h6
  rcases old q o hq with hm | ⟨h1, h2, h3, h4⟩
  ·rcases old q' o' hq' with hm' | ⟨h1', h2', h3', h4'⟩
   ·exact k.dis q q' b hm hm' hb hb'
   ·exact (cross q q' o' hm hb h1' h2' h3' h4' hb').elim
  ·rcases old q' o' hq' with hm' | ⟨h1', h2', h3', h4'⟩
   ·exact (cross q' q o hm' hb' h1 h2 h3 h4 hb).elim
   ·rw [(k.keep q o h1 h2 h3 h4).1] at hb
    rw [(k.keep q' o' h1' h2' h3' h4').1] at hb'
    exact h.sep q q' o o' b h1 h1' hb hb'
 have hnew : ∀ q o b, lookB st'.bx q = some o → q < RB → g'.φ q b → w0.heap.size ≤ b ∨ X b := by
  intro q o b hq hr hb
  rw [hbx] at hq
  rcases old q o hq with hm | ⟨h1, h2, h3, h4⟩
  ·rcases k.src q b hm hb with hlt | ⟨k0, o0, h5, _, h7, h8⟩
   ·exact .inl (Nat.le_trans h.below.size hlt)
   ·exact h.new k0 o0 b h5 (h7 hr) h8
  ·rw [(k.keep q o h1 h2 h3 h4).1] at hb
   exact h.new q o b h1 hr hb
 have hlb : ∀ q, CB ≤ q → g'.β q = DF.bl q := fun q hq => (k.β q fun hm => by have := (hfree q hm).lt; omega).trans (h.lb q hq)
 rcases hsg with ⟨rfl, hsg⟩ | ⟨t, rfl, ht, hsg⟩
 ·exact { hL with n := by rw [hn]; exact h.n, sg := fun t => by rw [hsg t]; exact hsg' t, new := hnew, d0 := Dm.le_trans h.d0 k.D, dnew := k.dnew, below := k.below, df := by rw [← h.df]; rfl, lb := hlb }
 ·have hp := sg_put (a := a) (h.n) hsg' k.val ht
  exact { hL with n := by rw [hn]; exact hp.1, sg := fun q => by rw [hsg q]; exact hp.2 q, new := hnew, d0 := Dm.le_trans h.d0 k.D, dnew := k.dnew, below := k.below, df := by rw [← h.df]; rfl, lb := hlb }
theorem FInv.does {D0 : Dm} {w0 : World} {X : Foot} {DF : Env} {g g' : Gh} {st st' : St} {a : Act} {w w' : World} {d : Option Nat} {e : Eff} {v : Value} (h : FInv DF D0 w0 X g st a w)
  (hs : st.does d e = some st') (k : Does w0 X D0 g st.bx w e g' v w') : FInv DF D0 w0 X g' st' (a.put d v) w' := by
 obtain ⟨hfree, _, hn, hbx, hsg⟩ := does_spec hs
 refine h.doesP (fun k hk => free_P (hfree k hk)) hn (fun k => by rw [hbx]) ?_ k
 rcases hsg with ⟨h1, h2⟩ | ⟨t, h1, h2, h3⟩
 ·exact .inl ⟨h1, fun t => by rw [h2]⟩
 ·exact .inr ⟨t, h1, h2, fun q => by rw [h3]⟩
end Go.Bm
