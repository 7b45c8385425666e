/- The abstract step of one operation. Conditions: none. -/
import Derived.Test.YtghdgncfcfdlfaaGreatDoorTLa
namespace Go.Proofs.YtghdgncfcfdlfaaGreatDoor
open Go

def ofCE : Value → Option CE
 | .bool b => some (.c (.bool b))
 | .int k n => some (.c (.int k n))
 | .string s => some (.c (.str s.data.toList))
 | .pointer none => some .nilp
 | .slice none 0 0 => some .nsl
 | .nilIface => some .nif
 | _ => none

def ofCEs : List Value → Option (List CE)
 | [] => some []
 | v :: l => match ofCE v, ofCEs l with
  | some x, some xs => some (x :: xs)
  | _, _ => none

def ofV : Value → Option AG
 | .agg cs => (ofCEs cs.toList).map .agg
 | v => (ofCE v).map .e

def ev (st : St) : Operand → Option AV
 | .tmp t => look st.T t
 | .const v => (ofV v).map .one
 | .global g => some (.one (.e (.gp g 0)))
 | .func f => some (.one (.fn f []))

/-- a sum, which is its second part where the first one is written 0 -/
def addN (a b : Nat) : Nat :=
 match a with
 | 0 => b
 | a + 1 => (a + 1) + b
theorem addN_eq (a b : Nat) : addN a b = a + b := by
 cases a with
 | zero => simp [addN]
 | succ a => rfl

/-- the outcome of an operation: a condition, the value, the blocks behind it -/
abbrev Out := Option (Prop × AV × List Blk)

def outG (H : List Blk) (φ : Prop) (x : AG) : Out := some (φ, .one x, H)
def outC (H : List Blk) (φ : Prop) (x : CV) : Out := some (φ, .one (.e (.c x)), H)

def binI (H : List Blk) (op : BinOp) (k : IntKind) (x y : Int) : Out :=
 match op with
 | .add => outC H True (.int k (k.wrap (x + y)))
 | .sub => outC H True (.int k (k.wrap (x - y)))
 | .mul => outC H True (.int k (k.wrap (x * y)))
 | .quo => outC H (y ≠ 0) (.int k (k.wrap (x.tdiv y)))
 | .rem => outC H (y ≠ 0) (.int k (x.tmod y))
 | .xor => outC H True (.int k (k.wrap ((BitVec.ofInt k.bits x ^^^ BitVec.ofInt k.bits y).toNat)))
 | .eql => outC H True (.bool (decide (x = y)))
 | .neq => outC H True (.bool (!decide (x = y)))
 | .lss => outC H True (.bool (decide (x < y)))
 | .leq => outC H True (.bool (decide (x ≤ y)))
 | .gtr => outC H True (.bool (decide (y < x)))
 | .geq => outC H True (.bool (decide (y ≤ x)))
 | _ => none

def binStr (H : List Blk) (op : BinOp) (x y : List UInt8) : Out :=
 match op with
 | .add => outC H (x.length + y.length ≤ 1099511627776) (.str (x ++ y))
 | .eql => outC H True (.bool (decide (x = y)))
 | .neq => outC H True (.bool (!decide (x = y)))
 | .lss => outC H True (.bool (Op.bytesLess x y))
 | _ => none

def binB (E : Env) (H : List Blk) (op : BinOp) (t : TypeId) (x y : Bool) : Out :=
 match E.P.underlying t, op with
 | some .bool, .eql => outC H True (.bool (x == y))
 | some .bool, .neq => outC H True (.bool (!(x == y)))
 | _, _ => none

def CEs.cv : List CE → Option (List CV)
 | [] => some []
 | .c x :: l => match CEs.cv l with
  | some xs => some (x :: xs)
  | none => none
 | _ :: _ => none

def eqCV (P : Program) (t : TypeId) : CV → CV → Option Bool
 | .int k a, .int k' b => match P.underlying t with
  | some (.int _) => if k = k' then some (decide (a = b)) else none
  | _ => none
 | .bool a, .bool b => match P.underlying t with
  | some .bool => some (a == b)
  | _ => none
 | .str a, .str b => match P.underlying t with
  | some .string => some (decide (a = b))
  | _ => none
 | _, _ => none

/-- two structs, field by field -/
def eqFs (P : Program) : Nat → List Field → List CV → List CV → Option Bool
 | _, [], [], [] => some true
 | o, f :: fs, a :: l, b :: m => if Nat.beq f.offset o && (Nat.beq (P.cellsOf f.type) 1 && f.name != "_") then
   match eqCV P f.type a b, eqFs P (o + 1) fs l m with
   | some p, some q => some (p && q)
   | _, _ => none
  else none
 | _, _, _, _ => none

def binAgg (E : Env) (H : List Blk) (op : BinOp) (t : TypeId) (l m : List CE) : Out :=
 match E.P.underlying t, CEs.cv l, CEs.cv m with
 | some (.struct fs), some x, some y => if E.P.stoodInHeld t || E.P.eqGuardType E.P.depth t then none else match eqFs E.P 0 fs.toList x y with
  | some b => match op with
   | .eql => outC H True (.bool b)
   | .neq => outC H True (.bool (!b))
   | _ => none
  | none => none
 | _, _, _ => none

def binS (E : Env) (H : List Blk) (op : BinOp) (t : TypeId) : AV → AV → Out
 | .one (.e (.c (.int k x))), .one (.e (.c (.int k' y))) => if k = k' then binI H op k x y else none
 | .one (.e (.c (.str x))), .one (.e (.c (.str y))) => binStr H op x y
 | .one (.e (.c (.bool x))), .one (.e (.c (.bool y))) => binB E H op t x y
 | .one (.agg l), .one (.agg m) => binAgg E H op t l m
 | _, _ => none

/-- two equal nil interface values, one of them written as nil -/
def binNil (E : Env) (H : List Blk) (op : BinOp) (t : TypeId) (y : Operand) : AV → Out
 | .one (.e .nif) => match y with
  | .const .nilIface => match E.P.underlying t, op with
   | some (.interface _), .eql => outC H True (.bool true)
   | some (.interface _), .neq => outC H True (.bool false)
   | _, _ => none
  | _ => none
 | .one (.e (.err b)) => match y with
  | .const .nilIface => match E.P.underlying t, op with
   | some (.interface _), .eql => outC H True (.bool (!b))
   | some (.interface _), .neq => outC H True (.bool b)
   | _, _ => none
  | _ => none
 | _ => none

def unS (H : List Blk) (op : UnOp) : AV → Out
 | .one (.e (.c (.bool b))) => match op with
  | .not => outC H True (.bool (!b))
  | _ => none
 | .one (.e (.c (.int k n))) => match op with
  | .neg => outC H True (.int k (k.wrap (0 - n)))
  | _ => none
 | _ => none

def bytesOf (l : List Int) : List UInt8 := l.map fun n => UInt8.ofNat n.toNat

def convS (E : Env) (H : List Blk) (s d : TypeId) : AV → Out
 | .one (.e (.c (.int _ n))) => match E.P.underlying d with
  | some (.int k) => outC H True (.int k (k.wrap n))
  | _ => none
 | .one (.e (.c (.str x))) => match E.P.underlying s, E.P.underlying d with
  | some .string, some .string => outC H True (.str x)
  | _, _ => none
 | .one (.e (.sl r off len)) => match E.P.underlying s, E.P.underlying d with
  | some (.slice e), some .string => match E.P.underlying e, H[r]? with
   | some (.int .u8), some (.row .u8 xs _) => outC H True (.str (bytesOf ((xs.drop off).take len)))
   | _, _ => none
  | _, _ => none
 | _ => none

def fieldOff (E : Env) (t : TypeId) (f : Nat) : Option (Nat × TypeId) :=
 match E.P.underlying t with
 | some (.struct fs) => match fs[f]? with
  | some fd => if E.P.cellsOf fd.type = 0 then none else some (fd.offset, fd.type)
  | none => none
 | _ => none

def aggT (E : Env) (t : TypeId) : Option Bool :=
 match E.P.underlying t with
 | some (.struct _) => some true
 | some (.array _ _) => some true
 | some _ => some false
 | none => none

def fieldAddrS (E : Env) (H : List Blk) (t : TypeId) (f : Nat) : AV → Out
 | .one (.e (.p r o)) => match fieldOff E t f with
  | some (d, _) => outG H True (.e (.p r (o + d)))
  | none => none
 | .one (.e (.rp r k o)) => match fieldOff E t f, H[r]? with
  | some (d, _), some (.row _ _ _) => outG H True (.e (.rp r k (o + d)))
  | _, _ => none
 | _ => none

def partS (E : Env) (H : List Blk) (t : TypeId) (l : List CE) (off : Nat) : Out :=
 match aggT E t with
 | some true => outG H True (.agg ((l.drop off).take (E.P.cellsOf t)))
 | some false => match l[off]? with
  | some x => outG H True (.e x)
  | none => none
 | none => none

def fieldS (E : Env) (H : List Blk) (t : TypeId) (f : Nat) : AV → Out
 | .one (.agg l) => match fieldOff E t f with
  | some (d, ft) => partS E H ft l d
  | none => none
 | _ => none

def indexAddrS (E : Env) (H : List Blk) (t : TypeId) : AV → AV → Out
 | .one (.e (.sl r off len)), .one (.e (.c (.int _ i))) => match E.P.underlying t, H[r]? with
  | some (.slice e), some (.row R _ _) => if E.P.cellsOf e = R.sz then outG H (0 ≤ i ∧ i < (len : Int)) (.e (.rp r (addN off i.toNat) 0)) else none
  | _, _ => none
 | .one (.e (.rp r k 0)), .one (.e (.c (.int _ i))) => match E.P.underlying t, H[r]? with
  | some (.array n e), some (.row R xs _) => if R.sz = 1 ∧ E.P.cellsOf e ≠ 0 then outG H (0 ≤ i ∧ i < (n : Int) ∧ addN k (i.toNat * E.P.cellsOf e) < xs.length) (.e (.rp r (addN k (i.toNat * E.P.cellsOf e)) 0)) else none
  | _, _ => none
 | .one (.e (.gp g k)), .one (.e (.c (.int _ i))) => match E.P.underlying t with
  | some (.array n e) => if E.P.cellsOf e ≠ 0 then outG H (0 ≤ i ∧ i < (n : Int)) (.e (.gp g (k + i.toNat * E.P.cellsOf e))) else none
  | _ => none
 | _, _ => none

def indexS (E : Env) (H : List Blk) (t : TypeId) : AV → AV → Out
 | .one (.e (.c (.str s))), .one (.e (.c (.int _ i))) => match E.P.underlying t with
  | some .string => outC H (0 ≤ i ∧ i < (s.length : Int)) (.int .u8 ((s.getD i.toNat 0).toNat : Int))
  | _ => none
 | .one (.arr R xs), .one (.e (.c (.int _ i))) => match E.P.underlying t with
  | some (.array n e) => if R.sz = 1 ∧ E.P.cellsOf e = 1 then match aggT E e with
    | some false => match (R.enc (xs.getD i.toNat R.dft))[0]? with
     | some y => outC H (0 ≤ i ∧ i < (n : Int) ∧ i.toNat < xs.length) y
     | none => none
    | _ => none
   else none
  | _ => none
 | _, _ => none

def arrT (E : Env) (t : TypeId) : Bool :=
 match E.P.underlying t with
 | some (.array _ _) => true
 | _ => false

def loadS (E : Env) (H : List Blk) (t : TypeId) : AV → Out
 | .one (.e (.p r o)) => match H[r]? with
  | some (.cells cs) => match aggT E t with
   | some true => if o + E.P.cellsOf t ≤ cs.length then outG H True (.agg ((cs.drop o).take (E.P.cellsOf t))) else none
   | some false => match cs[o]? with
    | some x => outG H True (.e x)
    | none => none
   | none => none
  | _ => none
 | .one (.e (.rp r k o)) => match H[r]? with
  | some (.row R xs _) => match aggT E t with
   | some true =>
    if arrT E t then
     if o = 0 ∧ R.sz = 1 then outG H (k + E.P.cellsOf t ≤ xs.length) (.arr R ((xs.drop k).take (E.P.cellsOf t))) else none
    else if o = 0 ∧ E.P.cellsOf t = R.sz then outG H True (.agg ((R.enc (xs.getD k R.dft)).map .c)) else none
   | some false => match (R.enc (xs.getD k R.dft))[o]? with
    | some x => outC H True x
    | none => none
   | none => none
  | _ => none
 | .one (.e (.gp g k)) => match E.G g with
  | some ⟨R, xs⟩ => if R.sz = 1 then match aggT E t with
    | some false => match (R.enc (xs.getD k R.dft))[0]? with
     | some x => outC H (k < xs.length) x
     | none => none
    | _ => none
   else none
  | none => none
 | _ => none

def AG.cells : AG → Option (List CE)
 | .e x => some [x]
 | .agg l => some l
 | _ => none

/-- cells that are known -/
def CE.live (H : List Blk) : CE → Bool
 | .junk => false
 | .sp _ _ => false
 | .rp r _ _ => match H[r]? with
  | some (.row _ _ _) => true
  | _ => false
 | .sl r _ _ => match H[r]? with
  | some (.row _ _ _) => true
  | _ => false
 | .bsl r _ => match H[r]? with
  | some (.row _ _ _) => true
  | _ => false
 | _ => true

def splice {α : Type} (l : List α) (o : Nat) (m : List α) : List α := l.take o ++ m ++ l.drop (o + m.length)

def storeS (E : Env) (H : List Blk) (t : TypeId) : AV → AV → Option (Prop × List Blk)
 | .one (.e (.p r o)), .one v => match H[r]?, v.cells with
  | some (.cells cs), some l => if l.length = E.P.cellsOf t ∧ l.length ≠ 0 ∧ o + l.length ≤ cs.length ∧ l.all (CE.live H) = true then some (True, H.set r (.cells (splice cs o l))) else none
  | _, _ => none
 | .one (.e (.rp r k o)), .one (.arr R' ys) => match H[r]? with
  | some (.row R xs true) => if h : R' = R then
    if o = 0 ∧ R.sz = 1 ∧ E.P.cellsOf t ≠ 0 then some (ys.length = E.P.cellsOf t ∧ k + ys.length ≤ xs.length, H.set r (.row R (splice xs k (h ▸ ys)) true)) else none
   else none
  | _ => none
 | .one (.e (.rp r k o)), .one v => match H[r]?, v.cells with
  | some (.row R xs true), some l => match CEs.cv l with
   | some cv => if l.length = E.P.cellsOf t ∧ l.length ≠ 0 ∧ o + l.length ≤ R.sz then match R.dec (splice (R.enc (xs.getD k R.dft)) o cv) with
     | some y => some (True, H.set r (.row R (xs.set k y) true))
     | none => none
    else none
   | none => none
  | _, _ => none
 | _, _ => none

def rcOfCell : List CV → Option RC
 | .bool _ :: _ => some .bool
 | .int .i64 _ :: _ => some .int
 | .int .u8 _ :: _ => some .u8
 | .str _ :: _ => some .str
 | _ => none

def decAll1 (R : RC) : List CV → Option (List R.A)
 | [] => some []
 | x :: l => match R.dec [x], decAll1 R l with
  | some y, some ys => some (y :: ys)
  | _, _ => none

/-- a new strings.Builder -/
def bldS (n : Nat) (t : TypeId) : List CE → List CE
 | [.nilp, .nsl] => [.sp n t, .nsl]
 | l => l

/-- a new variable of a type, and its address -/
def newS (E : Env) (H : List Blk) (t : TypeId) : AG → Out
 | .arr R xs => if R = .u8 then none else some (0 < xs.length ∧ xs.length ≤ 1099511627776, .one (.e (.rp H.length 0 0)), H ++ [.row R xs true])
 | v => match v.cells with
  | some l => if l.all (CE.live H) = true then
    if arrT E t then match CEs.cv l with
     | some cv => match rcOfCell cv with
      | some R => match decAll1 R cv with
       | some xs => if R.sz = 1 ∧ R ≠ .u8 then some (0 < xs.length ∧ xs.length ≤ 1099511627776, .one (.e (.rp H.length 0 0)), H ++ [.row R xs true]) else none
       | none => none
      | none => none
     | none => none
    else some (True, .one (.e (.p H.length 0)), H ++ [.cells (bldS H.length t l)])
   else none
  | none => none

def zeroS (E : Env) (t : TypeId) : Option AG :=
 match E.P.info? t with
 | some i => match i.zero with
  | some z => ofV z
  | none => none
 | none => none

def fillS (E : Env) (H : List Blk) (fs : Array Field) : List CE → List (Nat × Option AV) → Option (List CE)
 | cs, [] => some cs
 | cs, (i, some (.one v)) :: rest => match fs[i]?, v.cells with
  | some fd, some l => if l.length = E.P.cellsOf fd.type ∧ l.length ≠ 0 ∧ fd.offset + l.length ≤ cs.length ∧ l.all (CE.live H) = true then fillS E H fs (splice cs fd.offset l) rest else none
  | _, _ => none
 | _, _ => none

def buildS (E : Env) (H : List Blk) (t : TypeId) (parts : List (Nat × Option AV)) : Out :=
 match E.P.underlying t, zeroS E t with
 | some (.struct fs), some (.agg z) => if fs.all (fun f => E.P.cellsOf f.type != 0) = true then match fillS E H fs z parts with
   | some l => outG H True (.agg l)
   | none => none
  else none
 | _, _ => none

def elemsS (R : RC) : Nat → List (Nat × Option AV) → Option (List R.A)
 | _, [] => some []
 | n, (i, some (.one v)) :: rest => if i = n then match v.cells with
   | some l => match CEs.cv l with
    | some cv => match R.dec cv, elemsS R (n + 1) rest with
     | some y, some ys => some (y :: ys)
     | _, _ => none
    | none => none
   | none => none
  else none
 | _, _ => none

def buildSliceS (E : Env) (H : List Blk) (t : TypeId) (n : Nat) (parts : List (Nat × Option AV)) : Out :=
 match E.P.underlying t with
 | some (.slice e) => match E.rt e with
  | some R => if E.P.cellsOf e = R.sz ∧ parts.length = n ∧ n * R.sz ≤ 16777216 ∧ (zeroS E e).isSome = true ∧ (R ≠ .u8 ∨ e = 5) then match elemsS R 0 parts with
    | some ys => some (True, .one (.e (.sl H.length 0 n)), H ++ [.row R ys true])
    | none => none
   else none
  | none => none
 | _ => none

def iOf : Option AV → Option Int
 | some (.one (.e (.c (.int _ n)))) => some n
 | _ => none

def sliceS (E : Env) (H : List Blk) (t : TypeId) (x : AV) (lo hi : Option (Option AV)) : Out :=
 match x with
 | .one (.e (.sl r off len)) => match E.P.underlying t, H[r]? with
  | some (.slice e), some (.row R _ _) => if E.P.cellsOf e = R.sz then match lo, hi with
    | none, none => outG H True (.e (.sl r off len))
    | some l, none => match iOf l with
     | some l => outG H (0 ≤ l ∧ l ≤ (len : Int)) (.e (.sl r (addN off l.toNat) (len - l.toNat)))
     | none => none
    | none, some h => match iOf h with
     | some h => outG H (0 ≤ h ∧ h ≤ (len : Int)) (.e (.sl r off h.toNat))
     | none => none
    | some l, some h => match iOf l, iOf h with
     | some l, some h => outG H (0 ≤ l ∧ l ≤ h ∧ h ≤ (len : Int)) (.e (.sl r (addN off l.toNat) (h.toNat - l.toNat)))
     | _, _ => none
   else none
  | _, _ => none
 | .one (.e (.c (.str s))) => match E.P.underlying t with
  | some .string => match lo, hi with
   | none, none => outC H True (.str s)
   | some l, none => match iOf l with
    | some l => outC H (0 ≤ l ∧ l ≤ (s.length : Int)) (.str (s.drop l.toNat))
    | none => none
   | none, some h => match iOf h with
    | some h => outC H (0 ≤ h ∧ h ≤ (s.length : Int)) (.str (s.take h.toNat))
    | none => none
   | some l, some h => match iOf l, iOf h with
    | some l, some h => outC H (0 ≤ l ∧ l ≤ h ∧ h ≤ (s.length : Int)) (.str ((s.take h.toNat).drop l.toNat))
    | _, _ => none
  | _ => none
 | _ => none

def makeSliceS (E : Env) (H : List Blk) (t : TypeId) (l c : AV) : Out :=
 match E.P.underlying t, l, c with
 | some (.slice e), .one (.e (.c (.int .i64 n))), .one (.e (.c (.int .i64 m))) => match E.rt e, zeroS E e with
  | some R, some z => match z.cells with
   | some zc => match CEs.cv zc with
    | some cv => match R.dec cv with
     | some y => if E.P.cellsOf e = R.sz ∧ E.P.bytesOf e ≤ 64 ∧ (R ≠ .u8 ∨ e = 5) then some (n = m ∧ 0 ≤ n ∧ n ≤ 1099511627776, .one (.e (.sl H.length 0 (List.replicate n.toNat y).length)), H ++ [.row R (List.replicate n.toNat y) true]) else none
     | none => none
    | none => none
   | none => none
  | _, _ => none
 | _, _, _ => none

def capS : List (Option AV) → Option (List CE)
 | [] => some []
 | some (.one (.e x)) :: l => match capS l with
  | some xs => some (x :: xs)
  | none => none
 | _ :: _ => none

/-- what an append takes in, as elements of a row -/
def srcS (R : RC) (H : List Blk) : AV → Option (List R.A)
 | .one (.e (.sl r off len)) => match H[r]? with
  | some (.row R' xs _) => if h : R' = R then some (((h ▸ xs : List R.A).drop off).take len) else none
  | _ => none
 | .one (.e .nsl) => some []
 | .one (.e (.c (.str s))) => match R with
  | .u8 => some (s.map fun b => ((b.toNat : Nat) : Int))
  | _ => none
 | _ => none

/-- the type of what is appended -/
def srcT (E : Env) (t t' : TypeId) : AV → Bool
 | .one (.e (.c (.str _))) => match E.P.underlying t' with
  | some .string => true
  | _ => false
 | _ => decide (t = t')

def AV.refs (r : Nat) : AV → Bool
 | .one (.e (.sl q _ _)) => Nat.beq r q
 | _ => false

def zeroLen (E : Env) (H : List Blk) (t : TypeId) : Nat :=
 match zeroS E t with
 | some g => match g.cells with
  | some l => if l.all (CE.live H) = true then l.length else 0
  | none => 0
 | none => 0

def appendS (E : Env) (H : List Blk) (argT : Array TypeId) (s x : AV) : Out :=
 match argT.toList with
 | [t, t'] => if srcT E t t' x = true then match E.P.underlying t with
  | some (.slice e) => match E.rt e with
   | some R => if E.P.cellsOf e = R.sz ∧ E.P.bytesOf e ≤ 64 ∧ 0 < E.P.bytesOf e ∧ zeroLen E H e = R.sz ∧ (R ≠ .u8 ∨ e = 5) then match srcS R H x with
    | some ys => match s with
     | .one (.e .nsl) => some (ys.length ≤ 1099511627776, .one (.e (.sl H.length 0 ys.length)), H ++ [.row R ys true])
     | .one (.e (.sl r off len)) => if x.refs r then none else match H[r]? with
      | some (.row R' xs true) => if h : R' = R then
        some (off = 0 ∧ len = xs.length ∧ xs.length + ys.length ≤ 1099511627776, .one (.e (.sl H.length 0 ((h ▸ xs : List R.A) ++ ys).length)), H.set r .dead ++ [.row R ((h ▸ xs : List R.A) ++ ys) true])
       else none
      | _ => none
     | _ => none
    | none => none
   else none
   | none => none
  | _ => none
 else none
 | _ => none

/-- the same for the slice of a strings.Builder -/
def appendB (E : Env) (H : List Blk) (argT : Array TypeId) (s x : AV) : Out :=
 match s with
 | .one (.e (.bsl r len)) => match appendS E H argT (.one (.e (.sl r 0 len))) x with
  | some (φ, .one (.e (.sl k 0 m)), H') => some (φ, .one (.e (.bsl k m)), H')
  | _ => none
 | s => appendS E H argT s x

def lenS (E : Env) (H : List Blk) (t : TypeId) : AV → Out
 | .one (.e (.sl r _ len)) => match E.P.underlying t, H[r]? with
  | some (.slice _), some (.row _ _ _) => outC H True (.int .i64 (len : Int))
  | _, _ => none
 | .one (.e (.bsl r len)) => match E.P.underlying t, H[r]? with
  | some (.slice _), some (.row _ _ _) => outC H True (.int .i64 (len : Int))
  | _, _ => none
 | .one (.e .nsl) => match E.P.underlying t with
  | some (.slice _) => outC H True (.int .i64 0)
  | _ => none
 | .one (.e (.c (.str s))) => match E.P.underlying t with
  | some .string => outC H True (.int .i64 (s.length : Int))
  | _ => none
 | _ => none

/-- the address of a row -/
def sdS (E : Env) (H : List Blk) (ty : TypeId) : AV → Out
 | .one (.e (.bsl r _)) => match H[r]?, E.P.underlying ty with
  | some (.row _ _ true), some (.pointer _) => outG H True (.e (.sd r))
  | _, _ => none
 | _ => none

/-- the bytes of a row as a string; the row is given up -/
def usS (E : Env) (H : List Blk) (argT : Array TypeId) : AV → AV → Out
 | .one (.e (.sd r)), .one (.e (.c (.int .i64 n))) => match argT.toList with
  | [pt, _] => match E.P.underlying pt, H[r]? with
   | some (.pointer 5), some (.row .u8 xs true) => if E.P.cellsOf 5 = 1 then some (n = (xs.length : Int) ∧ ∀ x ∈ xs, 0 ≤ x ∧ x ≤ 255, .one (.e (.c (.str (bytesOf xs)))), H.set r .dead) else none
   | _, _ => none
  | _ => none
 | _, _ => none

def builtS (E : Env) (st : St) (b : Builtin) (ty : TypeId) (argT : Array TypeId) (args : List (Option AV)) : Out :=
 match b, args with
 | .len, [some x] => match argT.toList with
  | [t] => lenS E st.H t x
  | _ => none
 | .append, [some s, some x] => appendB E st.H argT s x
 | .min, [some (.one (.e (.c (.int k x)))), some (.one (.e (.c (.int _ y))))] => outC st.H True (.int k (if y < x then y else x))
 | .max, [some (.one (.e (.c (.int k x)))), some (.one (.e (.c (.int _ y))))] => outC st.H True (.int k (if y > x then y else x))
 | .unsafeSliceData, [some x] => sdS E st.H ty x
 | .unsafeString, [some x, some y] => usS E st.H argT x y
 | _, _ => none

def opS (E : Env) (st : St) (o : Oper) : Out :=
 match o.op with
 | .move x => match ev st x with
  | some v => some (True, v, st.H)
  | none => none
 | .assign x => match ev st x with
  | some v => some (True, v, st.H)
  | none => none
 | .pick c a b => match ev st c with
  | some (.one (.e (.c (.bool true)))) => match ev st a with
   | some v => some (True, v, st.H)
   | none => none
  | some (.one (.e (.c (.bool false)))) => match ev st b with
   | some v => some (True, v, st.H)
   | none => none
  | _ => none
 | .extract x i => match ev st x with
  | some (.tup l) => match l[i]? with
   | some v => some (True, .one v, st.H)
   | none => none
  | _ => none
 | .binOp op t x y _ => match ev st x, ev st y with
  | some a, some b => match binNil E st.H op t y a with
   | some r => some r
   | none => binS E st.H op t a b
  | _, _ => none
 | .unOp op _ x => match ev st x with
  | some a => unS st.H op a
  | none => none
 | .convert s d x => match ev st x, E.P.underlying s with
  | some a, some _ => convS E st.H s d a
  | _, _ => none
 | .nilCheck x => match ev st x with
  | some (.one (.e (.p r o))) => some (True, .one (.e (.p r o)), st.H)
  | some (.one (.e (.rp r k o))) => match st.H[r]? with
   | some (.row _ _ _) => some (True, .one (.e (.rp r k o)), st.H)
   | _ => none
  | _ => none
 | .fieldAddr t x f => match ev st x with
  | some a => fieldAddrS E st.H t f a
  | none => none
 | .field t x f => match ev st x with
  | some a => fieldS E st.H t f a
  | none => none
 | .indexAddr t x i => match ev st x, ev st i with
  | some a, some b => indexAddrS E st.H t a b
  | _, _ => none
 | .index t x i => match ev st x, ev st i with
  | some a, some b => indexS E st.H t a b
  | _, _ => none
 | .load t x => match ev st x with
  | some a => loadS E st.H t a
  | none => none
 | .alloc t => match zeroS E t with
  | some z => newS E st.H t z
  | none => none
 | .box t x => match ev st x with
  | some (.one v) => newS E st.H t v
  | _ => none
 | .build t parts => buildS E st.H t (parts.toList.map fun p => (p.1, ev st p.2))
 | .buildSlice t n parts => buildSliceS E st.H t n (parts.toList.map fun p => (p.1, ev st p.2))
 | .slice t x lo hi none => match ev st x with
  | some a => sliceS E st.H t a (lo.map (ev st)) (hi.map (ev st))
  | none => none
 | .makeSlice t l c => match ev st l, ev st c with
  | some a, some b => makeSliceS E st.H t a b
  | _, _ => none
 | .makeFunc (.func f) first cap => match first.toList with
  | [] => match capS (cap.toList.map (ev st)) with
   | some l => outG st.H True (.fn f l)
   | none => none
  | _ => none
 | .call c => match c.callee with
  | .builtin b => builtS E st b o.type c.argTypes (c.args.toList.map (ev st))
  | _ => none
 | _ => none

end Go.Proofs.YtghdgncfcfdlfaaGreatDoor
