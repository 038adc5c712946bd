/- An abstract machine over the loaded program, and how its values lie in memory. -/
import Derived.Orders
import Derived.KernelRfl
import Derived.Laws.Build
import Derived.Below
import Derived.Laws.NewBlocks
import Derived.Laws.AppendOwn
import Derived.Deep.AppendSrc
import Derived.Laws.Entries
import Derived.Laws.BitsAllLaws
import Derived.Laws.Cells
import Derived.Laws.CopyRow
import Derived.Laws.IdiomCopy
import Derived.Laws.Tables
import Derived.Deep.Upon
set_option linter.unusedVariables false
set_option linter.unusedSimpArgs false
/- An abstract machine over values that own no address: its states, its operations, its runs. No proof about Go stands here. -/
namespace Go.Ab
open Go

/-! ### Values -/
/-- What is never written again: one cell, or a slice, its elements by their cells. -/
inductive PV where
  | c (x : Value)
  | sl (es : List (List PV))

/-- What one cell holds: 'tsl', 'toref': a slice without spare room. -/
inductive CV where
  | p (x : PV)
  | tsl (es : List (List PV))
  | ref (id ver idx off : Nat)
  | oref (id ver off len : Nat)
  | toref (id ver off len : Nat)
  | ip (cs : List PV) (off : Nat)
  | clo (f : FuncId) (first caps : List CV)

/-- One cell's value, or a struct's. -/
inductive TE where
  | c (x : CV)
  | a (cs : List CV)

/-- What a temporary holds: a value, or several results. -/
inductive TV where
  | e (x : TE)
  | t (xs : List TE)
  | bad

abbrev badT : TV := .bad
abbrev mkI (k : IntKind) (n : Int) : TV := .e (.c (.p (.c (.int k n))))
abbrev mkB (b : Bool) : TV := .e (.c (.p (.c (.bool b))))
abbrev mkS (s : ByteArray) : TV := .e (.c (.p (.c (.string s))))
abbrev unitT : TV := .t []

def TE.cells : TE → List CV
  | .c x => [x]
  | .a cs => cs

def oneCell : Value → Bool
  | .agg _ | .tuple _ => false
  | _ => true
def constC : Value → CV
  | .slice none 0 0 => .tsl []
  | v => .p (.c v)
def constT : Value → TV
  | .tuple vs => cond (vs.size == 0) (.t []) .bad
  | .agg cs => cond (cs.toList.all oneCell) (.e (.a (cs.toList.map constC))) .bad
  | v => .e (.c (constC v))
def constE (v : Value) : Option TE := match constT v with
  | .e x => some x
  | _ => none

/-! ### Memory -/
/-- A variable, or an array: its version, the cells of an element, its type, whether it is still there, its elements. -/
structure AObj where
  ver : Nat
  k : Nat
  ety : TypeId
  live : Bool
  es : List (List CV)
abbrev Mem := List AObj

def Mem.at? (m : Mem) (id ver : Nat) : Option AObj :=
  match m[id]? with
  | some o => cond (o.live && o.ver == ver) (some o) none
  | none => none

/-! ### Reading values -/
def asI : TV → Option Int
  | .e (.c (.p (.c (.int _ n)))) => some n
  | _ => none
def asK (k : IntKind) : TV → Option Int
  | .e (.c (.p (.c (.int k' n)))) => cond (decide (k' = k)) (some n) none
  | _ => none
def asB : TV → Option Bool
  | .e (.c (.p (.c (.bool b)))) => some b
  | _ => none
def asS : TV → Option ByteArray
  | .e (.c (.p (.c (.string s)))) => some s
  | _ => none
def asE : TV → Option TE
  | .e x => some x
  | _ => none
def asC : TV → Option CV
  | .e (.c x) => some x
  | _ => none
/-- One more than the object's number; 0: none. -/
def idOf : TV → Nat
  | .e (.c (.ref id _ _ _)) => id + 1
  | .e (.c (.oref id _ _ _)) => id + 1
  | .e (.c (.toref id _ _ _)) => id + 1
  | _ => 0

def pick (n : Nat) (agg : Bool) (cs : List CV) : Option TE :=
  match agg with
  | true => cond (n ≤ cs.length) (some (.a (cs.take n))) none
  | false => match cs with
    | x :: _ => some (.c x)
    | [] => none

/-- A load of 'n' cells. -/
def aload (n : Nat) (agg : Bool) (a : TV) (m : Mem) : Option TE :=
  match a with
  | .e (.c (.ref id ver idx off)) =>
    match m.at? id ver with
    | some o => match o.es[idx]? with
      | some cs => pick n agg (cs.drop off)
      | none => none
    | none => none
  | .e (.c (.ip cs off)) => pick n agg ((cs.drop off).map .p)
  | _ => none

def updC (cs : List CV) (off : Nat) (new : List CV) : List CV := cs.take off ++ new ++ cs.drop (off + new.length)

def astore (n : Nat) (a v : TV) (m : Mem) : Option Mem :=
  match a, v with
  | .e (.c (.ref id ver idx off)), .e te =>
    match m.at? id ver with
    | some o => match o.es[idx]? with
      | some cs => cond (te.cells.length == n && decide (off + n ≤ cs.length)) (some (m.set id { o with es := o.es.set idx (updC cs off te.cells) })) none
      | none => none
    | none => none
  | _, _ => none

def boxObj (ety : TypeId) (cs : List CV) : AObj := ⟨0, cs.length, ety, true, [cs]⟩

/-- A struct or an array out of its parts: where, how many cells, what. -/
def afill : List CV → List (Nat × Nat × TV) → Option (List CV)
  | cs, [] => some cs
  | cs, (off, n, .e te) :: rest => cond (te.cells.length == n && decide (off + n ≤ cs.length)) (afill (updC cs off te.cells) rest) none
  | _, _ :: _ => none

def afillS (k : Nat) : List (List CV) → List (Nat × TV) → Option (List (List CV))
  | es, [] => some es
  | es, (i, .e te) :: rest => cond (te.cells.length == k && decide (i < es.length)) (afillS k (es.set i te.cells) rest) none
  | _, _ :: _ => none

def anil : TV → Option CV
  | .e (.c (.ref id ver idx off)) => some (.ref id ver idx off)
  | .e (.c (.ip cs off)) => some (.ip cs off)
  | .e (.c (.clo f x y)) => some (.clo f x y)
  | _ => none

/-! ### Operators -/
/-- What is compared: numbers or texts (by their own kind), truths, addresses; a struct of numbers ('true') and texts. -/
inductive EqK where
  | no | b | p
  | s (ks : List Bool)
def EqK.isB : EqK → Bool
  | .b => true
  | _ => false
def EqK.isP : EqK → Bool
  | .p => true
  | _ => false
def scalarEq (n : EqK) : Value → Value → Option Bool
  | .int k a, .int k' b => cond (decide (k = k')) (some (a == b)) none
  | .bool a, .bool b => cond n.isB (some (a == b)) none
  | .string a, .string b => some (decide (a = b))
  | .pointer none, .pointer none => cond n.isP (some true) none
  | _, _ => none
def cellEq (n : EqK) : CV → CV → Option Bool
  | .p (.c x), .p (.c y) => scalarEq n x y
  | .ref .., .p (.c (.pointer none)) => cond n.isP (some false) none
  | .p (.c (.pointer none)), .ref .. => cond n.isP (some false) none
  | .ip .., .p (.c (.pointer none)) => cond n.isP (some false) none
  | _, _ => none
def oneEq (k : Bool) (x y : CV) : Option Bool :=
  match k with
  | true => match x, y with
    | .p (.c (.int k a)), .p (.c (.int k' b)) => cond (decide (k = k')) (some (a == b)) none
    | _, _ => none
  | false => match x, y with
    | .p (.c (.string a)), .p (.c (.string b)) => some (decide (a = b))
    | _, _ => none
def cellsEq : List Bool → List CV → List CV → Option Bool
  | [], [], [] => some true
  | k :: ks, x :: xs, y :: ys => match oneEq k x y with
    | some b => match cellsEq ks xs ys with
      | some b' => some (b && b')
      | none => none
    | none => none
  | _, _, _ => none
def aeq (n : EqK) (x y : TV) : Option Bool :=
  match x, y with
  | .e (.c a), .e (.c b) => cellEq n a b
  | .e (.a xs), .e (.a ys) => match n with
    | .s ks => cellsEq ks xs ys
    | _ => none
  | _, _ => none
/-- A comparison. -/
def acmp (n : EqK) (op : BinOp) (x y : TV) : Option Bool :=
  match op with
  | .eql => aeq n x y
  | .neq => match aeq n x y with
    | some b => some (!b)
    | none => none
  | _ => match x, y with
    | .e (.c (.p (.c (.int k a)))), .e (.c (.p (.c (.int k' b)))) =>
      cond (decide (k = k')) (match op with
        | .lss => some (decide (a < b)) | .leq => some (decide (a ≤ b)) | .gtr => some (decide (a > b)) | .geq => some (decide (a ≥ b)) | _ => none) none
    | .e (.c (.p (.c (.string a)))), .e (.c (.p (.c (.string b)))) =>
      match op with
      | .lss => some (Op.bytesLess a.data.toList b.data.toList)
      | .leq => some (Op.bytesLess a.data.toList b.data.toList || decide (a = b))
      | .gtr => some (!(Op.bytesLess a.data.toList b.data.toList || decide (a = b)))
      | .geq => some (!(Op.bytesLess a.data.toList b.data.toList))
      | _ => none
    | _, _ => none
def abits (op : BinOp) (k : IntKind) (a b : Int) : Option Int :=
  match op with
  | .and => some (k.wrap ((BitVec.ofInt k.bits a &&& BitVec.ofInt k.bits b).toNat : Int))
  | .or => some (k.wrap ((BitVec.ofInt k.bits a ||| BitVec.ofInt k.bits b).toNat : Int))
  | .xor => some (k.wrap ((BitVec.ofInt k.bits a ^^^ BitVec.ofInt k.bits b).toNat : Int))
  | .andNot => some (k.wrap ((BitVec.ofInt k.bits a &&& ~~~ (BitVec.ofInt k.bits b)).toNat : Int))
  | _ => none
/-- Arithmetic on whole numbers. -/
def aarith (op : BinOp) (k : IntKind) (x y : TV) : Option Int :=
  match x, y with
  | .e (.c (.p (.c (.int kx a)))), .e (.c (.p (.c (.int ky b)))) =>
    cond (decide (kx = k)) (match op with
    | .shl => cond (decide (0 ≤ b)) (some (k.wrap (a * 2 ^ (min b.toNat k.bits)))) none
    | .shr => cond (decide (0 ≤ b)) (some (a.fdiv (2 ^ (min b.toNat k.bits)))) none
    | op => cond (decide (ky = k)) (match op with
      | .add => some (k.wrap (a + b))
      | .sub => some (k.wrap (a - b))
      | .mul => some (k.wrap (a * b))
      | .quo => cond (b == 0) none (some (k.wrap (a.tdiv b)))
      | .rem => cond (b == 0) none (some (a.tmod b))
      | op => abits op k a b) none) none
  | _, _ => none
def acat (x y : TV) : Option ByteArray :=
  match x, y with
  | .e (.c (.p (.c (.string a)))), .e (.c (.p (.c (.string b)))) => cond (decide (a.size + b.size ≤ 9223372036854775807)) (some (a ++ b)) none
  | _, _ => none
def anot (x : TV) : Option Bool := match asB x with | some b => some (!b) | none => none
def aneg (k : IntKind) (x : TV) : Option Int := match x with | .e (.c (.p (.c (.int k' n)))) => cond (decide (k' = k)) (some (k.wrap (0 - n))) none | _ => none
def acom (k : IntKind) (x : TV) : Option Int := match x with | .e (.c (.p (.c (.int k' n)))) => cond (decide (k' = k)) (abits .xor k (if k.signed then -1 else k.max) n) none | _ => none
def aconvI (k : IntKind) (x : TV) : Option Int := match asI x with | some n => some (k.wrap n) | none => none

def aiface (t : TypeId) (x : TV) : Option CV :=
  match x with
  | .e (.a []) => some (.p (.c (.iface t (.agg #[]))))
  | .e (.c (.p (.c v))) => some (.p (.c (.iface t v)))
  | _ => none
def apanic (x : TV) : Option Value :=
  match x with
  | .e (.c (.p (.c (.iface t v)))) => some (.iface t v)
  | _ => none
/-- A field of a struct's value. -/
def afieldV (off n : Nat) (agg : Bool) (x : TV) : Option TE :=
  match x with
  | .e (.a cs) => pick n agg (cs.drop off)
  | _ => none

/-! ### Slices -/
def byteP (b : UInt8) : List PV := [.c (.int .u8 (b.toNat : Int))]
def bytesP (l : List UInt8) : PV := .sl (l.map byteP)
/-- The elements of a slice as cells. -/
def elems (x : TV) (m : Mem) : Option (List (List CV)) :=
  match x with
  | .e (.c (.tsl es)) => some (es.map (·.map .p))
  | .e (.c (.p (.sl es))) => some (es.map (·.map .p))
  | .e (.c (.oref id ver off len)) => match m.at? id ver with
    | some o => cond (off + len ≤ o.es.length) (some ((o.es.drop off).take len)) none
    | none => none
  | .e (.c (.toref id ver off len)) => match m.at? id ver with
    | some o => cond (off + len ≤ o.es.length) (some ((o.es.drop off).take len)) none
    | none => none
  | .e (.c (.p (.c (.string s)))) => some (s.data.toList.map fun b => [CV.p (.c (.int .u8 (b.toNat : Int)))])
  | _ => none
def toByte : List CV → Option UInt8
  | [.p (.c (.int .u8 n))] => some (UInt8.ofNat n.toNat)
  | _ => none
def toBytes : List (List CV) → Option (List UInt8)
  | [] => some []
  | e :: es => match toByte e with
    | some b => match toBytes es with
      | some bs => some (b :: bs)
      | none => none
    | none => none
def isPC : TV → Bool
  | .e (.c (.p (.c _))) => true
  | _ => false
def abytesOf (x : TV) (m : Mem) : Option ByteArray :=
  match elems x m with
  | some es => match toBytes es with
    | some bs => cond (isPC x) none (some ⟨bs.toArray⟩)
    | none => none
  | none => none
def alen (x : TV) : Option Int :=
  match x with
  | .e (.c (.tsl es)) => some (es.length : Int)
  | .e (.c (.toref _ _ _ len)) => some (len : Int)
  | .e (.c (.p (.sl es))) => some (es.length : Int)
  | .e (.c (.oref _ _ _ len)) => some (len : Int)
  | .e (.c (.p (.c (.string s)))) => some (s.size : Int)
  | _ => none
def afield (off : Nat) (x : TV) : Option CV :=
  match x with
  | .e (.c (.ref id ver idx o)) => some (.ref id ver idx (o + off))
  | .e (.c (.ip cs o)) => some (.ip cs (o + off))
  | _ => none
/-- Do the elements have k cells? -/
def headLen (k : Nat) : List (List PV) → Bool
  | [] => true
  | e :: _ => e.length == k
def hasK (k : Nat) (m : Mem) (id : Nat) : Bool := match m[id]? with
  | some o => o.k == k
  | none => false
/-- The address of a slice's element. -/
def aidx (k : Nat) (x : TV) (i : Int) (m : Mem) : Option CV :=
  match x with
  | .e (.c (.oref id ver off len)) => cond (decide (0 ≤ i) && decide (i < (len : Int)) && hasK k m id) (some (.ref id ver (off + i.toNat) 0)) none
  | .e (.c (.toref id ver off len)) => cond (decide (0 ≤ i) && decide (i < (len : Int)) && hasK k m id) (some (.ref id ver (off + i.toNat) 0)) none
  | .e (.c (.p (.sl es))) => cond (decide (0 ≤ i)) (match es[i.toNat]? with
    | some e => cond (e.length == k) (some (.ip e 0)) none
    | none => none) none
  | .e (.c (.tsl es)) => cond (decide (0 ≤ i)) (match es[i.toNat]? with
    | some e => cond (e.length == k) (some (.ip e 0)) none
    | none => none) none
  | _ => none
/-- The address of an array's element. -/
def aidxA (n k : Nat) (x : TV) (i : Int) : Option CV :=
  cond (decide (0 ≤ i) && decide (i < (n : Int))) (afield (i.toNat * k) x) none
def aidxS (x : TV) (i : Int) : Option Int :=
  match x with
  | .e (.c (.p (.c (.string s)))) => cond (decide (0 ≤ i)) (match s.data.toList[i.toNat]? with
    | some b => some (b.toNat : Int)
    | none => none) none
  | _ => none
def asliceS (x : TV) (lo hi : Option Int) : Option ByteArray :=
  match x with
  | .e (.c (.p (.c (.string s)))) =>
    let l := lo.getD 0
    let h := hi.getD (s.size : Int)
    cond (decide (0 ≤ l) && decide (l ≤ h) && decide (h ≤ (s.size : Int))) (some (s.extract l.toNat h.toNat)) none
  | _ => none
def aslice (k : Nat) (x : TV) (lo hi : Option Int) (m : Mem) : Option CV :=
  match x with
  | .e (.c (.tsl es)) =>
    let l := lo.getD 0
    let h := hi.getD (es.length : Int)
    cond (decide (0 ≤ l) && decide (l ≤ h) && decide (h ≤ (es.length : Int)) && headLen k es) (some (.p (.sl ((es.drop l.toNat).take (h - l).toNat)))) none
  | .e (.c (.p (.sl es))) =>
    let l := lo.getD 0
    let h := hi.getD (es.length : Int)
    cond (decide (0 ≤ l) && decide (l ≤ h) && decide (h ≤ (es.length : Int)) && headLen k es) (some (.p (.sl ((es.drop l.toNat).take (h - l).toNat)))) none
  | .e (.c (.oref id ver off len)) =>
    let l := lo.getD 0
    let h := hi.getD (len : Int)
    cond (decide (0 ≤ l) && decide (l ≤ h) && decide (h ≤ (len : Int)) && hasK k m id) (some (.oref id ver (off + l.toNat) (h - l).toNat)) none
  | _ => none
/-- 's[:n:n]' of a slice of n elements. -/
def aclip (x : TV) (hi mx : Int) : Option CV :=
  match x with
  | .e (.c (.tsl es)) => cond (decide (hi = es.length) && decide (mx = es.length)) (some (.tsl es)) none
  | .e (.c (.p (.sl es))) => cond (decide (hi = es.length) && decide (mx = es.length)) (some (.tsl es)) none
  | .e (.c (.oref id ver off len)) => cond (decide (hi = len) && decide (mx = len)) (some (.toref id ver off len)) none
  | .e (.c (.toref id ver off len)) => cond (decide (hi = len) && decide (mx = len)) (some (.toref id ver off len)) none
  | _ => none
def roomB : Nat := 140737488355328
/-- A new array behind all others. -/
def fresh (ety k : Nat) (es : List (List CV)) (m : Mem) : CV × Mem := (.oref m.length 0 0 es.length, m ++ [⟨0, k, ety, true, es⟩])
def allLen (k : Nat) : List (List CV) → Bool
  | [] => true
  | e :: es => e.length == k && allLen k es
/-- An append: what came of it, and memory. -/
def aappend (ety k bytes : Nat) (s x : TV) (m : Mem) : Option (CV × Mem) :=
  match elems x m with
  | none => none
  | some new => cond (allLen k new) (
    match s with
    | .e (.c (.tsl es)) => cond new.isEmpty (some (.tsl es, m)) (cond (decide ((es.length + new.length) * bytes ≤ roomB) && allLen k (es.map (·.map .p))) (some (fresh ety k (es.map (·.map .p) ++ new) m)) none)
    | .e (.c (.toref id ver off len)) => cond new.isEmpty (some (.toref id ver off len, m)) (match m.at? id ver with
      | some o => cond (decide (off + len ≤ o.es.length) && decide ((len + new.length) * bytes ≤ roomB) && o.k == k) (some (fresh ety k ((o.es.drop off).take len ++ new) m)) none
      | none => none)
    | .e (.c (.oref id ver off len)) => cond new.isEmpty (some (.oref id ver off len, m)) (match m.at? id ver with
      | some o => cond (decide (off + len ≤ o.es.length) && decide ((len + new.length) * bytes ≤ roomB) && o.ety == ety && o.k == k)
        (some (.oref id (ver + 1) 0 (len + new.length), m.set id { o with ver := ver + 1, es := (o.es.drop off).take len ++ new })) none
      | none => none)
    | _ => none) none
def amake (ety k bytes : Nat) (zero : List CV) (l c : Int) : Option AObj :=
  cond (decide (0 ≤ l) && decide (l ≤ c) && decide (c * bytes ≤ (roomB : Int))) (some ⟨0, k, ety, true, List.replicate l.toNat zero⟩) none
def amaxGo (k : IntKind) : Int → List TV → Option Int
  | a, [] => some a
  | a, y :: ys => match asK k y with
    | some b => amaxGo k (if b > a then b else a) ys
    | none => none
def amaxI (k : IntKind) : List TV → Option Int
  | [] => none
  | x :: xs => match asK k x with
    | some a => amaxGo k a xs
    | none => none
def aminGo (k : IntKind) : Int → List TV → Option Int
  | a, [] => some a
  | a, y :: ys => match asK k y with
    | some b => aminGo k (if b < a then b else a) ys
    | none => none
def aminI (k : IntKind) : List TV → Option Int
  | [] => none
  | x :: xs => match asK k x with
    | some a => aminGo k a xs
    | none => none

/-! ### Freezing -/
def mapO {α β : Type} (f : α → Option β) : List α → Option (List β)
  | [] => some []
  | x :: xs => match f x with
    | some y => match mapO f xs with
      | some ys => some (y :: ys)
      | none => none
    | none => none
/-- What is frozen: objects below 'lo' are not. -/
def frzC (m : Mem) (lo : Nat) : Nat → CV → Option PV
  | _, .p x => some x
  | _, .tsl es => some (.sl es)
  | n + 1, .oref id ver off len => match m.at? id ver with
    | some o => cond (decide (lo ≤ id) && decide (off + len ≤ o.es.length)) (match mapO (mapO (frzC m lo n)) ((o.es.drop off).take len) with
      | some es => some (.sl es)
      | none => none) none
    | none => none
  | n + 1, .toref id ver off len => match m.at? id ver with
    | some o => cond (decide (lo ≤ id) && decide (off + len ≤ o.es.length)) (match mapO (mapO (frzC m lo n)) ((o.es.drop off).take len) with
      | some es => some (.sl es)
      | none => none) none
    | none => none
  | _, _ => none
def frzCs (m : Mem) (lo d : Nat) (cs : List CV) : Option (List PV) := mapO (frzC m lo d) cs
/-- 'dr': only what the value itself names is looked at. -/
def frzE (m : Mem) (lo : Nat) (dr : Bool) : TE → Option TE
  | .c x => match frzC m lo (cond dr 1 3) x with
    | some y => some (.c (.p y))
    | none => none
  | .a cs => match frzCs m lo (cond dr 0 3) cs with
    | some ys => some (.a (ys.map .p))
    | none => none
def frzT (m : Mem) (lo : Nat) : TV → Option TV
  | .e x => match frzE m lo false x with
    | some y => some (.e y)
    | none => none
  | .t xs => match mapO (frzE m lo false) xs with
    | some ys => some (.t ys)
    | none => none
  | .bad => none
def hasSlC : CV → Bool
  | .p (.c _) => false
  | _ => true
def hasSlE : TE → Bool
  | .c x => hasSlC x
  | .a cs => cs.any hasSlC
def hasSl : TV → Bool
  | .e x => hasSlE x
  | .t xs => xs.any hasSlE
  | .bad => true
def isOref : CV → Bool
  | .oref .. => true
  | .toref .. => true
  | _ => false
def anyOref (l : List TE) : Bool := l.any fun x => x.cells.any isOref

end Go.Ab

/- The abstract machine: its steps, its runs, and that a run is what its steps say. -/
namespace Go.Ab
open Go

/-- How a function is called: apart from all memory; it reads; it reads and makes; it writes. -/
inductive Mode where
  | iso | ro | al | rw
inductive Res where
  | ret (v : TV)
  | pan (v : Value)
abbrev Out := Res × Mem

structure Env where
  P : Program
  keep : FuncId → Nat → Option (List Nat)
  mode : FuncId → Mode
  ext : FuncId → Option (List TE → Mem → Option Out)

/-- What an operation of a region that draws its order has touched. -/
structure Foot where
  rd : List Nat
  wr : List Nat
  rdAll : Bool
  wrAll : Option (Mem × Mem)
  al : Bool
def Foot.nil : Foot := ⟨[], [], false, none, false⟩
def Foot.reads (l : List Nat) : Foot := ⟨l, [], false, none, false⟩
def Foot.new : Foot := ⟨[], [], false, none, true⟩

structure Cfg where
  fn : FuncId
  todo : List Item
  ops : List Oper
  rops : Array Oper
  log : Option (List Foot)
  tmps : List TV
  mem : Mem

/-- What a step is made of: it fails, it answers, it asks what another configuration runs to, it goes on as another one. -/
structure Alg (R : Type) where
  fail : R
  out : Out → R
  ask : Cfg → (Out → R) → R
  tail : Cfg → R
def Alg.bind {R α : Type} (A : Alg R) (x : Option α) (f : α → R) : R := match x with
  | some y => f y
  | none => A.fail

def getT (l : List TV) (t : Nat) : TV := match l[t]? with
  | some v => v
  | none => unitT
def ev (l : List TV) : Operand → TV
  | .tmp t => getT l t
  | .const v => constT v
  | .func f => .e (.c (.clo f [] []))
  | .global _ => badT
def putT (l : List TV) (d : Option Nat) (v : TV) : List TV := match d with
  | some d => l.set d v
  | none => l
def restrict (keep : List Nat) : Nat → List TV → List TV
  | _, [] => []
  | i, v :: l => cond (keep.contains i) v badT :: restrict keep (i + 1) l

/-! ### The types -/
def zeroE (P : Program) (t : TypeId) : Option TE := match P.info? t with
  | some i => match i.zero with
    | some v => constE v
    | none => none
  | none => none
def buildable (P : Program) (t : TypeId) : Bool := match P.underlying t with
  | some (.struct fs) => fs.toList.all fun f => (P.info? f.type).isSome
  | some (.array _ e) => (P.info? e).isSome
  | _ => false
/-- The zero value of a type, of the right number of cells. -/
def zeroK {R : Type} (A : Alg R) (P : Program) (e : TypeId) (k : TE → R) : R := A.bind (zeroE P e) fun z => cond (z.cells.length == P.cellsOf e) (k z) A.fail
def isRow : TypeDesc → Bool
  | .slice _ => true
  | .string => true
  | _ => false
def isAggT (P : Program) (t : TypeId) : Bool := match P.underlying t with
  | some (.struct _) => true
  | some (.array _ _) => true
  | _ => false
def placeOf (P : Program) (t : TypeId) (i : Nat) : Option (Nat × Nat) :=
  match P.underlying t with
  | some (.struct fs) => match fs[i]? with
    | some f => some (f.offset, P.cellsOf f.type)
    | none => none
  | some (.array _ e) => some (i * P.cellsOf e, P.cellsOf e)
  | _ => none
def places (P : Program) (l : List TV) (t : TypeId) : List (Nat × Operand) → Option (List (Nat × Nat × TV))
  | [] => some []
  | (i, x) :: rest => match placeOf P t i with
    | some (off, n) => match places P l t rest with
      | some r => some ((off, n, ev l x) :: r)
      | none => none
    | none => none

/-- A value by its type: a number, a truth, a text is taken out and put in again. -/
def typedK {R : Type} (A : Alg R) (P : Program) (ty : TypeId) (v : TV) (k : TV → R) : R :=
  match P.underlying ty with
  | some .bool => A.bind (asB v) fun b => k (mkB b)
  | some (.int kd) => A.bind (asK kd v) fun n => k (mkI kd n)
  | some .string => A.bind (asS v) fun s => k (mkS s)
  | some (.tuple _) => k v
  | some _ => A.bind (asE v) fun x => k (.e x)
  | none => A.fail
def optI (l : List TV) : Option Operand → Option (Option Int)
  | none => some none
  | some x => match asI (ev l x) with
    | some n => some (some n)
    | none => none
def aext (x : TV) (i : Nat) : Option TE := match x with
  | .t xs => xs[i]?
  | _ => none
/-- One value after another. -/
def takeE {R : Type} (A : Alg R) : List TV → (List TE → R) → R
  | [], k => k []
  | x :: xs, k => A.bind (asE x) fun y => takeE A xs fun ys => k (y :: ys)
def takeC {R : Type} (A : Alg R) : List TV → (List CV → R) → R
  | [], k => k []
  | x :: xs, k => A.bind (asC x) fun y => takeC A xs fun ys => k (y :: ys)

/-! ### Calls -/
def entry (P : Program) (g : FuncId) (args : List TE) (m : Mem) : Cfg :=
  match P.funcs[g]? with
  | some fn => match fn.body with
    | some b => { fn := g, todo := [.code b], ops := [], rops := #[], log := none, tmps := args.map .e ++ List.replicate (fn.ntmps - args.length) unitT, mem := m }
    | none => { fn := g, todo := [.beginRound], ops := [], rops := #[], log := none, tmps := [], mem := m }
  | none => { fn := g, todo := [.beginRound], ops := [], rops := #[], log := none, tmps := [], mem := m }

open Classical in
/-- Goes on if one memory is the beginning of the other. -/
noncomputable def prefixK {R : Type} (A : Alg R) (m m' : Mem) (o : R) : R := if m <+: m' then o else A.fail

/-- What a function answers: one of those that stand outside, or its text's run. -/
def askK {R : Type} (A : Alg R) (E : Env) (g : FuncId) (args : List TE) (m : Mem) (k : Out → R) : R :=
  match E.ext g with
  | some f => A.bind (f args m) k
  | none => A.ask (entry E.P g args m) k
/-- A call that sees no memory of the caller's and leaves it alone. -/
def callI {R : Type} (A : Alg R) (E : Env) (draw : Bool) (g : FuncId) (args : List TE) (m : Mem) (k : TV → R) : R :=
  A.bind (mapO (frzE m 0 draw) args) fun pa => askK A E g pa [] fun r => match r.1 with
    | .ret v => A.bind (frzT r.2 0 v) fun v => cond (anyOref args && hasSl v) A.fail (k v)
    | .pan v => cond draw A.fail (A.out (.pan v, m))
/-- A call that only reads the caller's memory. -/
noncomputable def callR {R : Type} (A : Alg R) (E : Env) (draw : Bool) (g : FuncId) (args : List TE) (m : Mem) (k : TV → R) : R :=
  askK A E g args m fun r => match r.1 with
    | .ret v => A.bind (frzT r.2 m.length v) fun v => prefixK A m r.2 (k v)
    | .pan v => cond draw A.fail (A.out (.pan v, r.2))
/-- A call that only reads what is there, and makes new memory. -/
noncomputable def callA {R : Type} (A : Alg R) (E : Env) (draw : Bool) (g : FuncId) (args : List TE) (m : Mem) (k : TV → Mem → R) : R :=
  askK A E g args m fun r => match r.1 with
    | .ret v => prefixK A m r.2 (k v r.2)
    | .pan v => cond draw A.fail (A.out (.pan v, r.2))
/-- A call that may write. -/
def callW {R : Type} (A : Alg R) (E : Env) (draw : Bool) (g : FuncId) (args : List TE) (m : Mem) (k : TV → Mem → R) : R :=
  askK A E g args m fun r => match r.1 with
    | .ret v => k v r.2
    | .pan v => cond draw A.fail (A.out (.pan v, r.2))
noncomputable def callK {R : Type} (A : Alg R) (E : Env) (draw : Bool) (g : FuncId) (args : List TE) (m : Mem) (k : TV → Mem → Foot → R) : R :=
  match E.mode g with
  | .iso => callI A E draw g args m fun v => k v m (.reads (args.map fun a => idOf (.e a)))
  | .ro => callR A E draw g args m fun v => k v m ⟨[], [], true, none, false⟩
  | .al => callA A E draw g args m fun v m' => k v m' ⟨[], [], true, none, true⟩
  | .rw => callW A E draw g args m fun v m' => k v m' ⟨[], [], false, some (m, m'), false⟩
/-- A call of a function value. -/
noncomputable def callD {R : Type} (A : Alg R) (E : Env) (draw : Bool) (f : TV) (args : List TE) (m : Mem) (k : TV → Mem → Foot → R) : R :=
  match f with
  | .e (.c (.clo g first caps)) => callK A E draw g (first.map .c ++ args ++ caps.map .c) m k
  | _ => A.fail

/-! ### One operation -/
noncomputable def builtinK {R : Type} (A : Alg R) (E : Env) (c : Cfg) (b : Builtin) (args : List TV) (argTypes : Array TypeId) (ty : TypeId) (k : TV → Mem → Foot → R) : R :=
  match b with
  | .len => match args, argTypes[0]? with
    | [x], some t => match E.P.underlying t with
      | some .string => A.bind (asS x) fun _ => A.bind (alen x) fun n => k (mkI .i64 n) c.mem .nil
      | some (.slice _) => cond (isPC x) A.fail (A.bind (alen x) fun n => k (mkI .i64 n) c.mem .nil)
      | _ => A.fail
    | _, _ => A.fail
  | .append => match args, argTypes[0]?, argTypes[1]? with
    | [s, x], some t, some u => match E.P.underlying t, E.P.underlying u with
      | some (.slice e), some d => cond (isRow d) (zeroK A E.P e fun _ => A.bind (aappend e (E.P.cellsOf e) (max 1 (E.P.bytesOf e)) s x c.mem) fun r => k (.e (.c r.1)) r.2 ⟨[idOf x], [idOf s], false, none, true⟩) A.fail
      | _, _ => A.fail
    | _, _, _ => A.fail
  | .max => match E.P.underlying ty with
    | some (.int kd) => A.bind (amaxI kd args) fun n => k (mkI kd n) c.mem .nil
    | _ => A.fail
  | .min => match E.P.underlying ty with
    | some (.int kd) => A.bind (aminI kd args) fun n => k (mkI kd n) c.mem .nil
    | _ => A.fail
  | _ => A.fail

def isCmp : BinOp → Bool
  | .eql | .neq | .lss | .leq | .gtr | .geq => true
  | _ => false

/-- The cells of a type whose values are numbers ('true'), texts, and structs of such. -/
def plainFs (P : Program) (rec : TypeId → Option (List Bool)) : List Field → Nat → Option (List Bool)
  | [], _ => some []
  | f :: fs, n => match rec f.type with
    | some k => cond (f.name != "_" && f.offset == n && k.length == P.cellsOf f.type) (match plainFs P rec fs (n + k.length) with
      | some r => some (k ++ r)
      | none => none) none
    | none => none
def plainT (P : Program) : Nat → TypeId → Option (List Bool)
  | 0, _ => none
  | d + 1, t => match P.underlying t with
    | some (.int _) => some [true]
    | some .string => some [false]
    | some (.struct fs) => cond (P.stoodInHeld t) none (plainFs P (plainT P d) fs.toList 0)
    | _ => none
def eqKind (P : Program) (t : TypeId) : EqK := match P.underlying t with
  | some .bool => .b
  | some (.pointer _) => .p
  | some (.struct _) => match plainT P 8 t with
    | some ks => cond (P.eqGuardType P.depth t) .no (.s ks)
    | none => .no
  | _ => .no

noncomputable def opK {R : Type} (A : Alg R) (E : Env) (c : Cfg) (o : Oper) (k : TV → Mem → Foot → R) : R :=
  match o.op with
  | .move x => k (ev c.tmps x) c.mem .nil
  | .assign x => k (ev c.tmps x) c.mem .nil
  | .pick cc a b => A.bind (asB (ev c.tmps cc)) fun t => cond t (k (ev c.tmps a) c.mem .nil) (k (ev c.tmps b) c.mem .nil)
  | .alloc e => A.bind (zeroE E.P e) fun z => k (.e (.c (.ref c.mem.length 0 0 0))) (c.mem ++ [boxObj e z.cells]) .new
  | .box e x => A.bind (asE (ev c.tmps x)) fun te => k (.e (.c (.ref c.mem.length 0 0 0))) (c.mem ++ [boxObj e te.cells]) .new
  | .build t parts => zeroK A E.P t fun z => cond (buildable E.P t) (A.bind (places E.P c.tmps t parts.toList) fun ps => A.bind (afill z.cells ps) fun cs => k (.e (.a cs)) c.mem .nil) A.fail
  | .buildSlice t len parts => match E.P.underlying t with
    | some (.slice e) => zeroK A E.P e fun z => cond (decide (len * E.P.cellsOf e ≤ 16777216)) (A.bind (afillS (E.P.cellsOf e) (List.replicate len z.cells) (parts.toList.map fun p => (p.1, ev c.tmps p.2))) fun es =>
        k (.e (.c (.oref c.mem.length 0 0 len))) (c.mem ++ [⟨0, E.P.cellsOf e, e, true, es⟩]) .new) A.fail
    | _ => A.fail
  | .load t a => A.bind (aload (E.P.cellsOf t) (isAggT E.P t) (ev c.tmps a) c.mem) fun v => typedK A E.P t (.e v) fun v => k v c.mem (.reads [idOf (ev c.tmps a)])
  | .store t a x => A.bind (E.P.info? t) fun _ => A.bind (astore (E.P.cellsOf t) (ev c.tmps a) (ev c.tmps x) c.mem) fun m => k unitT m ⟨[], [idOf (ev c.tmps a)], false, none, false⟩
  | .nilCheck x => A.bind (anil (ev c.tmps x)) fun v => k (.e (.c v)) c.mem .nil
  | .binOp op t x y _ => match isCmp op with
    | true => A.bind (acmp (eqKind E.P t) op (ev c.tmps x) (ev c.tmps y)) fun b => k (mkB b) c.mem .nil
    | false => match E.P.underlying t, op with
      | some (.int kd), op => A.bind (aarith op kd (ev c.tmps x) (ev c.tmps y)) fun n => k (mkI kd n) c.mem .nil
      | some .string, .add => A.bind (acat (ev c.tmps x) (ev c.tmps y)) fun s => k (mkS s) c.mem .nil
      | _, _ => A.fail
  | .unOp op t x => match op, E.P.underlying t with
    | .not, _ => A.bind (anot (ev c.tmps x)) fun b => k (mkB b) c.mem .nil
    | .neg, some (.int kd) => A.bind (aneg kd (ev c.tmps x)) fun n => k (mkI kd n) c.mem .nil
    | .xor, some (.int kd) => A.bind (acom kd (ev c.tmps x)) fun n => k (mkI kd n) c.mem .nil
    | _, _ => A.fail
  | .convert s d x => match E.P.underlying s, E.P.underlying d with
    | some (.int _), some (.int kd) => A.bind (aconvI kd (ev c.tmps x)) fun n => k (mkI kd n) c.mem .nil
    | some .string, some .string => A.bind (asS (ev c.tmps x)) fun s => k (mkS s) c.mem .nil
    | some .string, some (.slice e) => match E.P.underlying e with
      | some (.int .u8) => A.bind (asS (ev c.tmps x)) fun s => k (.e (.c (.p (bytesP s.data.toList)))) c.mem .nil
      | _ => A.fail
    | some (.slice e), some .string => match E.P.underlying e with
      | some (.int .u8) => A.bind (abytesOf (ev c.tmps x) c.mem) fun s => k (mkS s) c.mem (.reads [idOf (ev c.tmps x)])
      | _ => A.fail
    | _, _ => A.fail
  | .makeFunc (.func g) first caps => takeC A (first.toList.map (ev c.tmps)) fun fs => takeC A (caps.toList.map (ev c.tmps)) fun cs => k (.e (.c (.clo g fs cs))) c.mem .nil
  | .makeSlice t l cp => match E.P.underlying t with
    | some (.slice e) => zeroK A E.P e fun z => A.bind (asK .i64 (ev c.tmps l)) fun l => A.bind (asK .i64 (ev c.tmps cp)) fun cp => A.bind (amake e (E.P.cellsOf e) (max 1 (E.P.bytesOf e)) z.cells l cp) fun o =>
        k (.e (.c (.oref c.mem.length 0 0 l.toNat))) (c.mem ++ [o]) .new
    | _ => A.fail
  | .slice t x lo hi none => A.bind (optI c.tmps lo) fun lo => A.bind (optI c.tmps hi) fun hi => match E.P.underlying t with
    | some .string => A.bind (asliceS (ev c.tmps x) lo hi) fun s => k (mkS s) c.mem .nil
    | some (.slice e) => A.bind (E.P.info? e) fun _ => A.bind (aslice (E.P.cellsOf e) (ev c.tmps x) lo hi c.mem) fun v => k (.e (.c v)) c.mem .nil
    | _ => A.fail
  | .slice t x none (some hi) (some mx) => A.bind (asI (ev c.tmps hi)) fun hi => A.bind (asI (ev c.tmps mx)) fun mx => match E.P.underlying t with
    | some (.slice e) => A.bind (E.P.info? e) fun _ => A.bind (aclip (ev c.tmps x) hi mx) fun v => k (.e (.c v)) c.mem .nil
    | _ => A.fail
  | .makeInterface t x => match E.P.concrete t with
    | true => A.bind (aiface t (ev c.tmps x)) fun v => k (.e (.c v)) c.mem .nil
    | false => A.fail
  | .panic x => A.bind (apanic (ev c.tmps x)) fun v => cond c.log.isSome A.fail (A.out (.pan v, c.mem))
  | .field t x i => match placeOf E.P t i, E.P.underlying t with
    | some (off, n + 1), some (.struct fs) => match fs[i]? with
      | some f => A.bind (afieldV off (n + 1) (isAggT E.P f.type) (ev c.tmps x)) fun v => typedK A E.P f.type (.e v) fun v => k v c.mem .nil
      | none => A.fail
    | _, _ => A.fail
  | .fieldAddr s x i => match placeOf E.P s i, E.P.underlying s with
    | some (off, _n + 1), some (.struct _) => A.bind (afield off (ev c.tmps x)) fun v => k (.e (.c v)) c.mem .nil
    | _, _ => A.fail
  | .indexAddr t x i => A.bind (asI (ev c.tmps i)) fun i => match E.P.underlying t with
    | some (.slice e) => A.bind (E.P.info? e) fun _ => A.bind (aidx (E.P.cellsOf e) (ev c.tmps x) i c.mem) fun v => k (.e (.c v)) c.mem .nil
    | some (.array n e) => A.bind (E.P.info? e) fun _ => A.bind (aidxA n (E.P.cellsOf e) (ev c.tmps x) i) fun v => k (.e (.c v)) c.mem .nil
    | _ => A.fail
  | .index t x i => A.bind (asI (ev c.tmps i)) fun i => match E.P.underlying t with
    | some .string => A.bind (aidxS (ev c.tmps x) i) fun n => k (mkI .u8 n) c.mem .nil
    | _ => A.fail
  | .extract x i => A.bind (aext (ev c.tmps x) i) fun v => typedK A E.P o.type (.e v) fun v => k v c.mem .nil
  | .call cl => match cl.callee with
    | .builtin b => builtinK A E c b (cl.args.toList.map (ev c.tmps)) cl.argTypes o.type k
    | .value f => takeE A (cl.args.toList.map (ev c.tmps)) fun as => callD A E c.log.isSome (ev c.tmps f) as c.mem fun v m ft => typedK A E.P o.type v fun v => k v m ft
    | _ => A.fail
  | _ => A.fail

/-! ### One step -/
/-- The answer of a function. -/
def retO (vs : List TE) (m : Mem) : Out :=
  match vs with
  | [v] => (.ret (.e v), m)
  | vs => (.ret (.t vs), m)
def loadsK {R : Type} (A : Alg R) (P : Program) (l : List TV) (m : Mem) : List ResultVar → (List TV → R) → R
  | [], k => k []
  | .tmp t :: rs, k => loadsK A P l m rs fun vs => k (getT l t :: vs)
  | .cell a ty :: rs, k => A.bind (P.underlying ty) fun _ => A.bind (aload (P.cellsOf ty) (isAggT P ty) (getT l a) m) fun v => loadsK A P l m rs fun vs => k (.e v :: vs)
def retA {R : Type} (A : Alg R) (E : Env) (c : Cfg) : R :=
  match E.P.funcs[c.fn]? with
  | some fn => loadsK A E.P c.tmps c.mem fn.results.toList fun vs => takeE A vs fun tes => A.out (retO tes c.mem)
  | none => A.fail

/-- In which order two operations must come. -/
def beforeL : List Oper → List Nat → List Nat
  | [], acc => acc
  | o :: os, acc => beforeL os (acc ++ [o.after.toList.foldl (fun s e => cond (Region.binds .any e) (s ||| 2 ^ e.on ||| acc.getD e.on 0) s) 0])
/-- What must hold of what two operations touch that may come either way: two objects are two; an object is the same in two memories. -/
inductive Con where
  | ne (a b : Nat)
  | same (m m' : Mem) (a : Nat)
def Con.ok : Con → Prop
  | .ne a b => a = 0 ∨ a ≠ b
  | .same m m' a => a = 0 ∨ m[a - 1]? = m'[a - 1]?
def Foot.acts (f : Foot) : Bool := f.rdAll || f.wrAll.isSome || f.al || !f.wr.isEmpty
/-- 'f' stands ahead of 'g' in the text; 'none': they can't come either way. -/
def pairUp (f g : Foot) : Option (List Con) :=
  match f.wrAll, g.wrAll with
  | some (m, m'), _ => cond g.acts none (some (g.rd.map (Con.same m m')))
  | none, some (m, m') => cond f.acts none (some (f.rd.map (Con.same m m')))
  | none, none => cond ((f.rdAll && (!g.wr.isEmpty || g.al)) || (g.rdAll && (!f.wr.isEmpty || f.al))) none
    (some (f.wr.flatMap (fun a => (g.rd ++ g.wr).map fun b => .ne a b) ++ f.rd.flatMap (fun a => g.wr.map fun b => .ne a b)))
def pairsOf (bits : List Nat) (f : Foot) (i : Nat) : Nat → List Foot → Option (List Con)
  | _, [] => some []
  | j, g :: gs => match pairsOf bits f i (j + 1) gs with
    | some r => cond ((bits.getD j 0).testBit i) (some r) (match pairUp f g with
      | some ps => some (ps ++ r)
      | none => none)
    | none => none
def pairs (bits : List Nat) : Nat → List Foot → Option (List Con)
  | _, [] => some []
  | i, f :: fs => match pairsOf bits f i (i + 1) fs with
    | some ps => match pairs bits (i + 1) fs with
      | some r => some (ps ++ r)
      | none => none
    | none => none
open Classical in
noncomputable def conK {R : Type} (A : Alg R) (l : List Con) (k : R) : R := if ∀ c ∈ l, c.ok then k else A.fail
/-- The temporaries' own order: two operations that may come either way name no temporary that one of them writes. -/
def apartFrom (ops : Array Oper) (bits : List Nat) (x : Oper) (i : Nat) : Nat → List Oper → Bool
  | _, [] => true
  | j, y :: ys => ((bits.getD j 0).testBit i || Oper.apart ops x y) && apartFrom ops bits x i (j + 1) ys
def allApart (ops : Array Oper) (bits : List Nat) : Nat → List Oper → Bool
  | _, [] => true
  | i, x :: xs => apartFrom ops bits x i (i + 1) xs && allApart ops bits (i + 1) xs
def backOk : Nat → List Oper → Bool
  | _, [] => true
  | i, o :: os => (o.after.toList.all fun e => !Region.binds .any e || decide (e.on < i)) && backOk (i + 1) os

noncomputable def endRegion {R : Type} (A : Alg R) (c : Cfg) (fs : List Foot) (k : R) : R :=
  let ops := c.rops.toList
  let bits := beforeL ops []
  cond (backOk 0 ops && allApart c.rops bits 0 ops) (match pairs bits 0 fs with
    | some [] => k
    | some ps => conK A ps k
    | none => A.fail) A.fail

def setGuard (c : Cfg) (j : Nat) (b : Bool) : Cfg :=
  match (c.rops[j]?).bind (·.dst) with
  | some d => { c with tmps := c.tmps.set d (mkB b) }
  | none => c

noncomputable def stepK {R : Type} (A : Alg R) (E : Env) (c : Cfg) : R :=
  match c.ops with
  | o :: rest =>
    let skip (c : Cfg) := A.tail { c with ops := rest, tmps := putT c.tmps o.dst unitT, log := c.log.map (· ++ [.nil]) }
    let doit (c : Cfg) := opK A E c o fun v m ft => A.tail { c with ops := rest, tmps := putT c.tmps o.dst v, mem := m, log := c.log.map (· ++ [ft]) }
    match o.guard with
    | none => doit c
    | some (j, want) => match (c.rops[j]?).bind (·.dst) with
      | none => A.fail
      | some d => match getT c.tmps d with
        | .t _ => skip c
        | .bad => A.fail
        | .e v => A.bind (asB (.e v)) fun b => cond b (cond want (doit (setGuard c j true)) (skip (setGuard c j true))) (cond want (skip (setGuard c j false)) (doit (setGuard c j false)))
  | [] => match c.log with
    | some fs => endRegion A c fs (A.tail { c with log := none })
    | none => match c.todo with
      | [] => retA A E c
      | .inBlock _ :: k => A.tail { c with todo := k }
      | .inLoop b :: k => A.tail { c with todo := .code b :: .inLoop b :: k }
      | .code cd :: k => match cd with
        | .skip => A.tail { c with todo := k }
        | .seq x y => A.tail { c with todo := .code x :: .code y :: k }
        | .cond x t f => A.bind (asB (ev c.tmps x)) fun b => cond b (A.tail { c with todo := .code t :: k }) (A.tail { c with todo := .code f :: k })
        | .block id b => A.tail { c with todo := .code b :: .inBlock id :: k }
        | .loop b => A.tail { c with todo := .code b :: .inLoop b :: k }
        | .exit id => match exitTo id k with
          | some k' => A.tail { c with todo := k' }
          | none => A.fail
        | .region id ops draw => A.tail { c with todo := k, ops := ops.toList, rops := ops, log := cond draw (some []) none, tmps := match E.keep c.fn id with
          | some l => restrict l 0 c.tmps
          | none => c.tmps }
        | .ret => retA A E c
        | _ => A.fail
      | _ => A.fail

/-- As answers. -/
def optA (call cont : Cfg → Option Out) : Alg (Option Out) := ⟨none, some, fun c k => (call c).bind k, cont⟩
noncomputable def stp (E : Env) (call cont : Cfg → Option Out) (c : Cfg) : Option Out := stepK (optA call cont) E c

noncomputable def runN (E : Env) : Nat → Cfg → Option Out
  | 0, _ => none
  | n + 1, c => stp E (runN E n) (runN E n) c

end Go.Ab

/- That a run with more steps answers the same; what a configuration runs to; that it is what many steps at once say. -/
namespace Go.Ab
open Go

/-! ### A step as a tree of questions -/
inductive Tree where
  | fail
  | out (o : Out)
  | ask (c : Cfg) (k : Out → Tree)
  | tail (c : Cfg)
def treeA : Alg Tree := ⟨.fail, .out, .ask, .tail⟩
def Tree.run (call cont : Cfg → Option Out) : Tree → Option Out
  | .fail => none
  | .out o => some o
  | .ask c k => (call c).bind fun o => (k o).run call cont
  | .tail c => cont c

section
variable {f g : Cfg → Option Out}
/-- An answer that is a tree's. -/
def Is (f g : Cfg → Option Out) (x : Option Out) (t : Tree) : Prop := x = t.run f g
theorem Is.fail : Is f g (optA f g).fail treeA.fail := rfl
theorem Is.out (o : Out) : Is f g ((optA f g).out o) (treeA.out o) := rfl
theorem Is.ask (c : Cfg) {k : Out → Option Out} {k' : Out → Tree} (h : ∀ o, Is f g (k o) (k' o)) : Is f g ((optA f g).ask c k) (treeA.ask c k') := by
  show (f c).bind k = (f c).bind _
  congr 1
  funext o
  exact h o
theorem Is.tail (c : Cfg) : Is f g ((optA f g).tail c) (treeA.tail c) := rfl
theorem Is.bind {α : Type} (x : Option α) {k : α → Option Out} {k' : α → Tree} (h : ∀ o, Is f g (k o) (k' o)) : Is f g ((optA f g).bind x k) (treeA.bind x k') := by
  cases x with
  | none => rfl
  | some y => exact h y
theorem Is.cond (b : Bool) {x y : Option Out} {u v : Tree} (h1 : Is f g x u) (h2 : Is f g y v) : Is f g (cond b x y) (cond b u v) := by
  cases b <;> assumption
theorem Is.typed {P : Program} {ty : TypeId} {v : TV} {k : TV → Option Out} {k' : TV → Tree} (h : ∀ v, Is f g (k v) (k' v)) : Is f g (typedK (optA f g) P ty v k) (typedK treeA P ty v k') := by
  unfold typedK
  split
  · exact .bind _ fun _ => h _
  · exact .bind _ fun _ => h _
  · exact .bind _ fun _ => h _
  · exact h _
  · exact .bind _ fun _ => h _
  · exact .fail
theorem Is.zero {P : Program} {e : TypeId} {k : TE → Option Out} {k' : TE → Tree} (h : ∀ v, Is f g (k v) (k' v)) : Is f g (zeroK (optA f g) P e k) (zeroK treeA P e k') :=
  .bind _ fun _ => .cond _ (h _) .fail
theorem Is.takeE : ∀ (l : List TV) {k : List TE → Option Out} {k' : List TE → Tree}, (∀ vs, Is f g (k vs) (k' vs)) → Is f g (takeE (optA f g) l k) (takeE treeA l k')
  | [], _, _, h => h _
  | _ :: xs, _, _, h => .bind _ fun y => Is.takeE xs fun ys => h (y :: ys)
theorem Is.takeC : ∀ (l : List TV) {k : List CV → Option Out} {k' : List CV → Tree}, (∀ vs, Is f g (k vs) (k' vs)) → Is f g (takeC (optA f g) l k) (takeC treeA l k')
  | [], _, _, h => h _
  | _ :: xs, _, _, h => .bind _ fun y => Is.takeC xs fun ys => h (y :: ys)
theorem Is.pre {m m' : Mem} {x : Option Out} {t : Tree} (h : Is f g x t) : Is f g (prefixK (optA f g) m m' x) (prefixK treeA m m' t) := by
  unfold prefixK
  split
  · exact h
  · exact .fail
theorem Is.askK {E : Env} {fn : FuncId} {args : List TE} {m : Mem} {k : Out → Option Out} {k' : Out → Tree} (hk : ∀ o, Is f g (k o) (k' o)) :
    Is f g (askK (optA f g) E fn args m k) (askK treeA E fn args m k') := by
  unfold Ab.askK
  split
  · exact .bind _ hk
  · exact .ask _ hk
theorem Is.callI {E : Env} {draw : Bool} {fn : FuncId} {args : List TE} {m : Mem} {k : TV → Option Out} {k' : TV → Tree} (hk : ∀ v, Is f g (k v) (k' v)) :
    Is f g (callI (optA f g) E draw fn args m k) (callI treeA E draw fn args m k') := by
  unfold Ab.callI
  repeat' first
    | exact .fail
    | exact .out _
    | exact hk _
    | refine .askK fun _ => ?_
    | refine .bind _ fun _ => ?_
    | refine .cond _ ?_ ?_
    | split
theorem Is.callR {E : Env} {draw : Bool} {fn : FuncId} {args : List TE} {m : Mem} {k : TV → Option Out} {k' : TV → Tree} (hk : ∀ v, Is f g (k v) (k' v)) :
    Is f g (callR (optA f g) E draw fn args m k) (callR treeA E draw fn args m k') := by
  unfold Ab.callR
  repeat' first
    | exact .fail
    | exact .out _
    | exact hk _
    | refine .pre ?_
    | refine .askK fun _ => ?_
    | refine .bind _ fun _ => ?_
    | refine .cond _ ?_ ?_
    | split
theorem Is.callA {E : Env} {draw : Bool} {fn : FuncId} {args : List TE} {m : Mem} {k : TV → Mem → Option Out} {k' : TV → Mem → Tree} (hk : ∀ v m, Is f g (k v m) (k' v m)) :
    Is f g (callA (optA f g) E draw fn args m k) (callA treeA E draw fn args m k') := by
  unfold Ab.callA
  repeat' first
    | exact .fail
    | exact .out _
    | exact hk _ _
    | refine .pre ?_
    | refine .askK fun _ => ?_
    | refine .cond _ ?_ ?_
    | split
theorem Is.con {l : List Con} {x : Option Out} {t : Tree} (h : Is f g x t) : Is f g (conK (optA f g) l x) (conK treeA l t) := by
  unfold conK
  split
  · exact h
  · exact .fail
theorem Is.callW {E : Env} {draw : Bool} {fn : FuncId} {args : List TE} {m : Mem} {k : TV → Mem → Option Out} {k' : TV → Mem → Tree} (hk : ∀ v m, Is f g (k v m) (k' v m)) :
    Is f g (callW (optA f g) E draw fn args m k) (callW treeA E draw fn args m k') := by
  unfold Ab.callW
  repeat' first
    | exact .fail
    | exact .out _
    | exact hk _ _
    | refine .askK fun _ => ?_
    | refine .cond _ ?_ ?_
    | split
theorem Is.call {E : Env} {draw : Bool} {fn : FuncId} {args : List TE} {m : Mem} {k : TV → Mem → Foot → Option Out} {k' : TV → Mem → Foot → Tree} (hk : ∀ v m ft, Is f g (k v m ft) (k' v m ft)) :
    Is f g (callK (optA f g) E draw fn args m k) (callK treeA E draw fn args m k') := by
  unfold callK
  split
  · exact .callI fun _ => hk _ _ _
  · exact .callR fun _ => hk _ _ _
  · exact .callA fun _ _ => hk _ _ _
  · exact .callW fun _ _ => hk _ _ _
theorem Is.callD {E : Env} {draw : Bool} {fn : TV} {args : List TE} {m : Mem} {k : TV → Mem → Foot → Option Out} {k' : TV → Mem → Foot → Tree} (hk : ∀ v m ft, Is f g (k v m ft) (k' v m ft)) :
    Is f g (callD (optA f g) E draw fn args m k) (callD treeA E draw fn args m k') := by
  unfold Ab.callD
  split
  · exact .call hk
  · exact .fail
theorem Is.loads {P : Program} {l : List TV} {m : Mem} : ∀ (rs : List ResultVar) {k : List TV → Option Out} {k' : List TV → Tree}, (∀ vs, Is f g (k vs) (k' vs)) →
    Is f g (loadsK (optA f g) P l m rs k) (loadsK treeA P l m rs k')
  | [], _, _, h => h _
  | .tmp t :: rs, _, _, h => Is.loads rs fun vs => h (getT l t :: vs)
  | .cell _ _ :: rs, _, _, h => .bind _ fun _ => .bind _ fun v => Is.loads rs fun vs => h (.e v :: vs)
theorem Is.retA {E : Env} {c : Cfg} : Is f g (retA (optA f g) E c) (retA treeA E c) := by
  unfold Ab.retA
  split
  · exact .loads _ fun _ => .takeE _ fun _ => .out _
  · exact .fail
theorem Is.builtin {E : Env} {c : Cfg} {b : Builtin} {args : List TV} {argTypes : Array TypeId} {ty : TypeId} {k : TV → Mem → Foot → Option Out} {k' : TV → Mem → Foot → Tree} (hk : ∀ v m ft, Is f g (k v m ft) (k' v m ft)) :
    Is f g (builtinK (optA f g) E c b args argTypes ty k) (builtinK treeA E c b args argTypes ty k') := by
  unfold builtinK
  repeat' first
    | exact .fail
    | refine .zero fun _ => ?_
    | refine .cond _ ?_ ?_
    | exact hk _ _ _
    | refine .bind _ fun _ => ?_
    | split
theorem Is.op {E : Env} {c : Cfg} {o : Oper} {k : TV → Mem → Foot → Option Out} {k' : TV → Mem → Foot → Tree} (hk : ∀ v m ft, Is f g (k v m ft) (k' v m ft)) :
    Is f g (opK (optA f g) E c o k) (opK treeA E c o k') := by
  unfold opK
  repeat' first
    | exact .fail
    | exact hk _ _ _
    | exact .out _
    | exact .builtin hk
    | refine .callD fun _ _ _ => ?_
    | refine .typed fun _ => ?_
    | refine .zero fun _ => ?_
    | refine .takeE _ fun _ => ?_
    | refine .takeC _ fun _ => ?_
    | refine .bind _ fun _ => ?_
    | refine .cond _ ?_ ?_
    | split
theorem Is.region {c : Cfg} {fs : List Foot} {x : Option Out} {t : Tree} (h : Is f g x t) : Is f g (endRegion (optA f g) c fs x) (endRegion treeA c fs t) := by
  unfold endRegion
  dsimp only
  refine .cond _ ?_ .fail
  split
  · exact h
  · exact .con h
  · exact .fail
theorem Is.step (E : Env) (c : Cfg) : Is f g (stepK (optA f g) E c) (stepK treeA E c) := by
  unfold stepK
  dsimp only
  repeat' first
    | exact .fail
    | exact .tail _
    | exact .retA
    | exact .op fun _ _ _ => .tail _
    | exact .region (.tail _)
    | refine .bind _ fun _ => ?_
    | refine .cond _ ?_ ?_
    | split
end
theorem stp_tree (E : Env) (f g : Cfg → Option Out) (c : Cfg) : stp E f g c = (stepK treeA E c).run f g := Is.step E c

/-! ### More steps -/
def LeO (a b : Option Out) : Prop := ∀ o, a = some o → b = some o
theorem LeO.refl (a : Option Out) : LeO a a := fun _ h => h
theorem LeO.trans {a b c : Option Out} (h : LeO a b) (h' : LeO b c) : LeO a c := fun o ho => h' o (h o ho)
theorem Tree.run_le {f f' g g' : Cfg → Option Out} (hf : ∀ c, LeO (f c) (f' c)) (hg : ∀ c, LeO (g c) (g' c)) : ∀ t : Tree, LeO (t.run f g) (t.run f' g')
  | .fail => LeO.refl _
  | .out _ => LeO.refl _
  | .tail c => hg c
  | .ask c k => by
    intro o ho
    simp only [Tree.run, Option.bind_eq_some_iff] at ho ⊢
    obtain ⟨x, hx, ho⟩ := ho
    exact ⟨x, hf c x hx, Tree.run_le hf hg (k x) o ho⟩
theorem stp_le {E : Env} {f f' g g' : Cfg → Option Out} (hf : ∀ c, LeO (f c) (f' c)) (hg : ∀ c, LeO (g c) (g' c)) (c : Cfg) : LeO (stp E f g c) (stp E f' g' c) := by
  rw [stp_tree, stp_tree]
  exact Tree.run_le hf hg _
theorem runN_le (E : Env) : ∀ n c, LeO (runN E n c) (runN E (n + 1) c)
  | 0, _ => fun _ h => by cases h
  | n + 1, c => stp_le (runN_le E n) (runN_le E n) c
theorem runN_le_add (E : Env) (n : Nat) : ∀ k c, LeO (runN E n c) (runN E (n + k) c)
  | 0, _ => LeO.refl _
  | k + 1, c => (runN_le_add E n k c).trans (runN_le E (n + k) c)
theorem runN_mono {E : Env} {n k : Nat} (h : n ≤ k) (c : Cfg) : LeO (runN E n c) (runN E k c) := by
  obtain ⟨d, rfl⟩ := Nat.le.dest h
  exact runN_le_add E n d c
theorem runN_agree {E : Env} {n n' : Nat} {c : Cfg} {o o' : Out} (h : runN E n c = some o) (h' : runN E n' c = some o') : o = o' := by
  have a := runN_le_add E n n' c o h
  have b := runN_le_add E n' n c o' h'
  rw [Nat.add_comm] at b
  exact Option.some.inj (a.symm.trans b)

open Classical in
/-- What a configuration runs to. -/
noncomputable def ex (E : Env) (c : Cfg) : Option Out := if h : ∃ o n, runN E n c = some o then some h.choose else none
theorem ex_some {E : Env} {c : Cfg} {o : Out} : ex E c = some o ↔ ∃ n, runN E n c = some o := by
  unfold ex
  constructor
  · intro h
    split at h
    · rename_i hx
      obtain ⟨n, hn⟩ := hx.choose_spec
      obtain rfl := Option.some.inj h
      exact ⟨n, hn⟩
    · cases h
  · rintro ⟨n, hn⟩
    have hx : ∃ o n, runN E n c = some o := ⟨o, n, hn⟩
    rw [dif_pos hx]
    obtain ⟨n', hn'⟩ := hx.choose_spec
    rw [runN_agree hn hn']
theorem runN_ex (E : Env) (n : Nat) (c : Cfg) : LeO (runN E n c) (ex E c) := fun _ h => ex_some.2 ⟨n, h⟩
theorem Tree.run_fin (E : Env) : ∀ (t : Tree) (o : Out), t.run (ex E) (ex E) = some o → ∃ n, t.run (runN E n) (runN E n) = some o
  | .fail, _, h => by cases h
  | .out _, _, h => ⟨0, h⟩
  | .tail _, _, h => ex_some.1 h
  | .ask c k, o, h => by
    simp only [Tree.run, Option.bind_eq_some_iff] at h
    obtain ⟨x, hx, h⟩ := h
    obtain ⟨n, hn⟩ := ex_some.1 hx
    obtain ⟨n', hn'⟩ := Tree.run_fin E (k x) o h
    refine ⟨n + n', ?_⟩
    simp only [Tree.run, Option.bind_eq_some_iff]
    exact ⟨x, runN_mono (Nat.le_add_right _ _) c x hn, Tree.run_le (runN_mono (Nat.le_add_left _ _)) (runN_mono (Nat.le_add_left _ _)) _ o hn'⟩
theorem ex_eq (E : Env) (c : Cfg) : ex E c = stp E (ex E) (ex E) c := by
  refine Option.ext fun o => ⟨fun h => ?_, fun h => ?_⟩
  · obtain ⟨n, hn⟩ := ex_some.1 h
    cases n with
    | zero => cases hn
    | succ n => exact stp_le (runN_ex E n) (runN_ex E n) c o hn
  · rw [stp_tree] at h
    obtain ⟨n, hn⟩ := Tree.run_fin E _ o h
    rw [← stp_tree] at hn
    exact ex_some.2 ⟨n + 1, hn⟩

/-! ### Many steps at once -/
/-- Is this the begin of a region that is cut at? -/
def isCut (E : Env) (c : Cfg) : Bool :=
  match c.ops, c.log, c.todo with
  | [], none, .code (.region id _ _) :: _ => (E.keep c.fn id).isSome
  | _, _, _ => false
def cutTo (E : Env) (c : Cfg) : Cfg :=
  match c.todo with
  | .code (.region id _ _) :: _ => match E.keep c.fn id with
    | some l => { c with tmps := restrict l 0 c.tmps, rops := #[] }
    | none => c
  | _ => c
/-- Many steps at once, up to where it is cut. -/
noncomputable def seg (E : Env) (rec : Cfg → Option Out) : Nat → Cfg → Option Out
  | 0, c => rec c
  | n + 1, c => stp E rec (fun c' => cond (isCut E c') (rec (cutTo E c')) (seg E rec n c')) c

theorem restrict_restrict (l : List Nat) : ∀ (i : Nat) (t : List TV), restrict l i (restrict l i t) = restrict l i t
  | _, [] => rfl
  | i, v :: t => by
    simp only [restrict, restrict_restrict l (i + 1) t]
    cases l.contains i <;> rfl
theorem ex_cut {E : Env} {c : Cfg} (h : isCut E c = true) : ex E (cutTo E c) = ex E c := by
  obtain ⟨fn, todo, ops, rops, log, tmps, mem⟩ := c
  unfold isCut at h
  split at h
  · rename_i id rg dr rest hops hlog htodo
    simp only at hops hlog htodo h
    subst hops hlog htodo
    obtain ⟨l, hl⟩ := Option.isSome_iff_exists.1 h
    rw [ex_eq E (cutTo E _), ex_eq E ⟨fn, _, _, _, _, _, _⟩]
    simp only [cutTo, hl, stp, stepK, restrict_restrict]
  · cases h
theorem ex_seg (E : Env) : ∀ n c, ex E c = seg E (ex E) n c
  | 0, _ => rfl
  | n + 1, c => by
    have h : (fun c' => cond (isCut E c') (ex E (cutTo E c')) (seg E (ex E) n c')) = ex E := by
      funext c'
      cases hc : isCut E c' with
      | true => exact ex_cut hc
      | false => exact (ex_seg E n c').symm
    rw [seg, h]
    exact ex_eq E c

end Go.Ab

/- Configurations by place. -/
namespace Go.Ab
open Go
/-- What is still to be done when a region begins. -/
def stackTo (rid : Nat) : Code → List Item → Option (List Item)
  | .region id ops d, k => cond (id == rid) (some (.code (.region id ops d) :: k)) none
  | .seq a b, k => match stackTo rid a (.code b :: k) with
    | some r => some r
    | none => stackTo rid b k
  | .cond _ a b, k => match stackTo rid a k with
    | some r => some r
    | none => stackTo rid b k
  | .block id b, k => stackTo rid b (.inBlock id :: k)
  | .loop b, k => stackTo rid b (.inLoop b :: k)
  | _, _ => none
def cfgAt (P : Program) (fn rid : Nat) (tmps : List TV) (m : Mem) : Cfg :=
  { fn := fn, ops := [], rops := #[], log := none, tmps := tmps, mem := m, todo := match P.funcs[fn]? with
    | some f => match f.body with
      | some c => (stackTo rid c []).getD []
      | none => []
    | none => [] }
def tmsFrom (l : List (Nat × TV)) : Nat → Nat → List TV
  | _, 0 => []
  | i, n + 1 => ((l.find? fun p => p.1 == i).map (·.2)).getD badT :: tmsFrom l (i + 1) n
def tms (n : Nat) (l : List (Nat × TV)) : List TV := tmsFrom l 0 n
def keepIn (l : List (Nat × Nat × List Nat)) (f r : Nat) : Option (List Nat) := (l.find? fun x => x.1 == f && x.2.1 == r).map (·.2.2)
end Go.Ab

/- How the abstract machine's values and memory lie in the machine's memory, and that this stays. -/
namespace Go.Ab
open Go

/-- Where objects lie (block and first cell), and the blocks that are nobody's business. -/
structure Gh where
  at_ : List (Option (Nat × Nat))
  hid : List Nat
def Gh.own (G : Gh) (b : Nat) : Prop := ∃ (i o : Nat), G.at_[i]? = some (some (b, o))
/-- A block that nobody here writes. -/
def Gh.ok (G : Gh) (w : World) (b : Nat) : Prop := b < w.heap.size ∧ ¬ G.own b ∧ b ∉ G.hid

abbrev cellAt (b o : Nat) : Addr := ⟨b, o, none⟩

/-- A value that is never written. -/
inductive PR (ok : Nat → Prop) (w : World) : PV → Value → Prop
  | c (x : Value) (h : oneCell x = true) : PR ok w (.c x) x
  | sl (es : List (List PV)) (A : Option Addr) (n cap k : Nat) (cv : Nat → Nat → Value) (hn : es.length = n) (hcap : n ≤ cap)
      (hA : 0 < n → ∃ b o, A = some (cellAt b o) ∧ ok b ∧ ∀ (i : Nat) (e : List PV), es[i]? = some e → e.length = k ∧ ∀ (j : Nat) (x : PV), e[j]? = some x → w.cell? (cellAt b (o + (i * k + j))) = some (cv i j))
      (h : ∀ (i : Nat) (e : List PV) (j : Nat) (x : PV), es[i]? = some e → e[j]? = some x → PR ok w x (cv i j)) :
      PR ok w (.sl es) (.slice A n cap)

/-- What a cell holds. -/
inductive CR (G : Gh) (m : Mem) (w : World) : CV → Value → Prop
  | p {x : PV} {v : Value} (h : PR (G.ok w) w x v) : CR G m w (.p x) v
  | tsl {es : List (List PV)} {A : Option Addr} {n : Nat} (h : PR (G.ok w) w (.sl es) (.slice A n n)) : CR G m w (.tsl es) (.slice A n n)
  | ref {id ver idx off : Nat} {a : Addr} (o : AObj) (ho : m[id]? = some o) (hl : o.live = true) (hv : ver ≤ o.ver)
      (h : ver = o.ver → ∃ g b, G.at_[id]? = some (some (g, b)) ∧ a = cellAt g (b + idx * o.k + off)) : CR G m w (.ref id ver idx off) (.pointer (some a))
  | oref {id ver off len cap : Nat} {A : Addr} (o : AObj) (ho : m[id]? = some o) (hl : o.live = true) (hv : ver ≤ o.ver) (hc : len ≤ cap)
      (h : ver = o.ver → ∃ g b, G.at_[id]? = some (some (g, b)) ∧ (0 < cap → A = cellAt g (b + off * o.k)) ∧ ∃ ty n, w.shape? g = some (ty, n) ∧ b + (off + cap) * o.k ≤ n) :
      CR G m w (.oref id ver off len) (.slice (some A) len cap)
  | toref {id ver off len : Nat} {A : Addr} (o : AObj) (ho : m[id]? = some o) (hl : o.live = true) (hv : ver ≤ o.ver)
      (h : ver = o.ver → ∃ g b, G.at_[id]? = some (some (g, b)) ∧ (0 < len → A = cellAt g (b + off * o.k))) : CR G m w (.toref id ver off len) (.slice (some A) len len)
  | ip {cs : List PV} {off : Nat} (b o : Nat) (cv : Nat → Value) (hb : G.ok w b) (h : ∀ (j : Nat) (x : PV), cs[j]? = some x → w.cell? (cellAt b (o + j)) = some (cv j))
      (h' : ∀ (j : Nat) (x : PV), cs[j]? = some x → PR (G.ok w) w x (cv j)) : CR G m w (.ip cs off) (.pointer (some (cellAt b (o + off))))
  | clo {f : FuncId} {first caps : List CV} {fs cs : Array Value} (hf : first.length = fs.size) (hc : caps.length = cs.size)
      (h : ∀ (i : Nat) x y, first[i]? = some x → fs[i]? = some y → CR G m w x y) (h' : ∀ (i : Nat) x y, caps[i]? = some x → cs[i]? = some y → CR G m w x y) :
      CR G m w (.clo f first caps) (.func (.func f) fs cs)

inductive TER (G : Gh) (m : Mem) (w : World) : TE → Value → Prop
  | c {x : CV} {v : Value} (h : CR G m w x v) : TER G m w (.c x) v
  | a {cs : List CV} {vs : Array Value} (hn : cs.length = vs.size) (h : ∀ (i : Nat) x v, cs[i]? = some x → vs[i]? = some v → CR G m w x v) : TER G m w (.a cs) (.agg vs)
inductive TVR (G : Gh) (m : Mem) (w : World) : TV → Value → Prop
  | e {x : TE} {v : Value} (h : TER G m w x v) : TVR G m w (.e x) v
  | t {xs : List TE} {vs : Array Value} (hn : xs.length = vs.size) (h : ∀ (i : Nat) x v, xs[i]? = some x → vs[i]? = some v → TER G m w x v) : TVR G m w (.t xs) (.tuple vs)
  | bad (v : Value) : TVR G m w .bad v

/-- An object in its block. -/
structure ObjR (G : Gh) (m : Mem) (w : World) (o : AObj) (g b : Nat) : Prop where
  ex : ∃ cs : Array Value, w.heap[g]? = some (.cells cs o.ety (0, 0)) ∧ b + o.es.length * o.k ≤ cs.size ∧
    ∀ (idx : Nat) (e : List CV), o.es[idx]? = some e → e.length = o.k ∧ ∀ (j : Nat) (x : CV), e[j]? = some x → ∃ v, cs[b + idx * o.k + j]? = some v ∧ CR G m w x v

/-- Memory lies as it says. -/
structure Rel (G : Gh) (m : Mem) (w : World) : Prop where
  len : G.at_.length = m.length
  obj : ∀ (id : Nat) (o : AObj), m[id]? = some o → o.live = true → ∃ g b, G.at_[id]? = some (some (g, b)) ∧ ObjR G m w o g b
  inj : ∀ (i j g b b' : Nat), G.at_[i]? = some (some (g, b)) → G.at_[j]? = some (some (g, b')) → i = j
  lt : ∀ (i g b : Nat), G.at_[i]? = some (some (g, b)) → g < w.heap.size
  hid : ∀ (i g b : Nat), G.at_[i]? = some (some (g, b)) → g ∉ G.hid
  hlt : ∀ b, b ∈ G.hid → b < w.heap.size
  dead : ∀ (i : Nat) (x : Nat × Nat), G.at_[i]? = some (some x) → ∃ o : AObj, m[i]? = some o ∧ o.live = true

/-- What may have come of memory. -/
structure Ev (G : Gh) (m : Mem) (w : World) (G' : Gh) (m' : Mem) (w' : World) : Prop where
  size : w.heap.size ≤ w'.heap.size
  shape : ∀ b ty n, w.shape? b = some (ty, n) → w'.shape? b = some (ty, n)
  os : w'.os = w.os
  tape : w'.tape = w.tape
  output : w'.output = w.output
  hid : G'.hid = G.hid
  keep : ∀ b, b < w.heap.size → ¬ G.own b → w'.heap[b]? = w.heap[b]?
  new : ∀ b, G'.own b → G.own b ∨ w.heap.size ≤ b
  obj : ∀ (id : Nat) (o : AObj), m[id]? = some o → o.live = true → ∃ o' : AObj, m'[id]? = some o' ∧ o'.live = true ∧ o.ver ≤ o'.ver ∧ (o'.ver = o.ver → G'.at_[id]? = G.at_[id]? ∧ o'.k = o.k)

theorem Ev.refl (G : Gh) (m : Mem) (w : World) : Ev G m w G m w :=
  ⟨Nat.le_refl _, fun _ _ _ h => h, rfl, rfl, rfl, rfl, fun _ _ _ => rfl, fun _ h => .inl h, fun _ o h hl => ⟨o, h, hl, Nat.le_refl _, fun _ => ⟨rfl, rfl⟩⟩⟩

theorem World.shape_lt {w : World} {b : Nat} {x : TypeId × Nat} (h : w.shape? b = some x) : b < w.heap.size := by
  unfold World.shape? at h
  rcases Nat.lt_or_ge b w.heap.size with h' | h'
  · exact h'
  · rw [Array.getElem?_eq_none h'] at h
    cases h

theorem Ev.trans {G : Gh} {m : Mem} {w : World} {G₁ : Gh} {m₁ : Mem} {w₁ : World} {G₂ : Gh} {m₂ : Mem} {w₂ : World} (h : Ev G m w G₁ m₁ w₁) (h' : Ev G₁ m₁ w₁ G₂ m₂ w₂) : Ev G m w G₂ m₂ w₂ where
  size := Nat.le_trans h.size h'.size
  shape b ty n hs := h'.shape b ty n (h.shape b ty n hs)
  os := h'.os.trans h.os
  tape := h'.tape.trans h.tape
  output := h'.output.trans h.output
  hid := h'.hid.trans h.hid
  keep b hb hn := by
    rw [← h.keep b hb hn]
    refine h'.keep b (Nat.lt_of_lt_of_le hb h.size) fun ho => ?_
    rcases h.new b ho with ho | ho
    · exact hn ho
    · omega
  new b hb := by
    rcases h'.new b hb with hb | hb
    · exact h.new b hb
    · exact .inr (Nat.le_trans h.size hb)
  obj id o ho hl := by
    obtain ⟨o₁, ho₁, hl₁, hv₁, hk₁⟩ := h.obj id o ho hl
    obtain ⟨o₂, ho₂, hl₂, hv₂, hk₂⟩ := h'.obj id o₁ ho₁ hl₁
    refine ⟨o₂, ho₂, hl₂, Nat.le_trans hv₁ hv₂, fun he => ?_⟩
    have e₁ : o₁.ver = o.ver := by omega
    have e₂ : o₂.ver = o₁.ver := by omega
    exact ⟨(hk₂ e₂).1.trans (hk₁ e₁).1, (hk₂ e₂).2.trans (hk₁ e₁).2⟩

section
variable {G G' : Gh} {m m' : Mem} {w w' : World} (h : Ev G m w G' m' w')
include h
theorem Ev.ok {b : Nat} (hb : G.ok w b) : G'.ok w' b := by
  obtain ⟨h1, h2, h3⟩ := hb
  refine ⟨Nat.lt_of_lt_of_le h1 h.size, fun ho => ?_, by rw [h.hid]; exact h3⟩
  rcases h.new b ho with ho | ho
  · exact h2 ho
  · omega
theorem Ev.cell {b o : Nat} (hb : G.ok w b) : w'.cell? (cellAt b o) = w.cell? (cellAt b o) := by
  simp only [World.cell?, h.keep b hb.1 hb.2.1]
theorem Ev.pr {x : PV} {v : Value} (hx : PR (G.ok w) w x v) : PR (G'.ok w') w' x v := by
  induction hx with
  | c x hx => exact .c x hx
  | sl es A n cap k cv hn hcap hA _ ih =>
    refine .sl es A n cap k cv hn hcap (fun h0 => ?_) ih
    obtain ⟨b, o, rfl, hb, hc⟩ := hA h0
    refine ⟨b, o, rfl, h.ok hb, fun i e he => ⟨(hc i e he).1, fun j x hj => ?_⟩⟩
    rw [h.cell hb]
    exact (hc i e he).2 j x hj
theorem Ev.cr {x : CV} {v : Value} (hx : CR G m w x v) : CR G' m' w' x v := by
  induction hx with
  | p hx => exact .p (h.pr hx)
  | tsl hx => exact .tsl (h.pr hx)
  | ref o ho hl hv hg =>
    obtain ⟨o', ho', hl', hv', hk⟩ := h.obj _ o ho hl
    refine .ref o' ho' hl' (Nat.le_trans hv hv') fun he => ?_
    obtain ⟨e1, e2⟩ := hk (by omega)
    obtain ⟨g, b, hat, ha⟩ := hg (by omega)
    exact ⟨g, b, e1.trans hat, by rw [e2]; exact ha⟩
  | oref o ho hl hv hc hg =>
    obtain ⟨o', ho', hl', hv', hk⟩ := h.obj _ o ho hl
    refine .oref o' ho' hl' (Nat.le_trans hv hv') hc fun he => ?_
    obtain ⟨e1, e2⟩ := hk (by omega)
    obtain ⟨g, b, hat, ha, ty, n, hs, hn⟩ := hg (by omega)
    exact ⟨g, b, e1.trans hat, by rw [e2]; exact ha, ty, n, h.shape _ _ _ hs, by rw [e2]; exact hn⟩
  | toref o ho hl hv hg =>
    obtain ⟨o', ho', hl', hv', hk⟩ := h.obj _ o ho hl
    refine .toref o' ho' hl' (Nat.le_trans hv hv') fun he => ?_
    obtain ⟨e1, e2⟩ := hk (by omega)
    obtain ⟨g, b, hat, ha⟩ := hg (by omega)
    exact ⟨g, b, e1.trans hat, by rw [e2]; exact ha⟩
  | ip b o cv hb hc hp => exact .ip b o cv (h.ok hb) (fun j x hj => by rw [h.cell hb]; exact hc j x hj) fun j x hj => h.pr (hp j x hj)
  | clo hf hc _ _ ih ih' => exact .clo hf hc ih ih'
theorem Ev.ter {x : TE} {v : Value} (hx : TER G m w x v) : TER G' m' w' x v := by
  cases hx with
  | c hx => exact .c (h.cr hx)
  | a hn hx => exact .a hn fun i x v hi hv => h.cr (hx i x v hi hv)
theorem Ev.tvr {x : TV} {v : Value} (hx : TVR G m w x v) : TVR G' m' w' x v := by
  cases hx with
  | e hx => exact .e (h.ter hx)
  | t hn hx => exact .t hn fun i x v hi hv => h.ter (hx i x v hi hv)
  | bad => exact .bad _
end

end Go.Ab

/- What memory may come to: new memory that nobody follows, a new object, an object turned. -/
namespace Go.Ab
open Go

theorem shape_of {w w' : World} {b : Nat} (h : w'.heap[b]? = w.heap[b]?) : w'.shape? b = w.shape? b := by
  simp only [World.shape?, h]

/-- New memory, and draws. -/
theorem Ev.junk {G : Gh} {m : Mem} {w w' : World} (h : w.grownBy w' none) : Ev G m w G m w' where
  size := h.size
  shape b ty n hs := by rw [shape_of (h.block b (World.shape_lt hs) (by simp))]; exact hs
  os := h.os
  tape := h.tape
  output := h.output
  hid := rfl
  keep b hb _ := h.block b hb (by simp)
  new b hb := .inl hb
  obj id o ho hl := ⟨o, ho, hl, Nat.le_refl _, fun _ => ⟨rfl, rfl⟩⟩
theorem ObjR.ev {G G' : Gh} {m m' : Mem} {w w' : World} (h : Ev G m w G' m' w') {o : AObj} {g b : Nat} (ho : ObjR G m w o g b) (hh : w'.heap[g]? = w.heap[g]?) : ObjR G' m' w' o g b := by
  obtain ⟨cs, h1, h2, h3⟩ := ho.ex
  refine ⟨cs, by rw [hh]; exact h1, h2, fun idx e he => ⟨(h3 idx e he).1, fun j x hj => ?_⟩⟩
  obtain ⟨v, hv, hx⟩ := (h3 idx e he).2 j x hj
  exact ⟨v, hv, h.cr hx⟩
theorem Rel.junk {G : Gh} {m : Mem} {w w' : World} (h : Rel G m w) (hg : w.grownBy w' none) : Rel G m w' where
  len := h.len
  obj id o ho hl := by
    obtain ⟨g, b, hat, hr⟩ := h.obj id o ho hl
    exact ⟨g, b, hat, hr.ev (Ev.junk hg) (hg.block g (h.lt _ _ _ hat) (by simp))⟩
  inj := h.inj
  lt i g b hat := Nat.lt_of_lt_of_le (h.lt i g b hat) hg.size
  hid := h.hid
  hlt b hb := Nat.lt_of_lt_of_le (h.hlt b hb) hg.size
  dead := h.dead

def AObj.none : AObj := ⟨0, 0, 0, false, []⟩
def Gh.set (G : Gh) (id : Nat) (x : Nat × Nat) : Gh := ⟨G.at_.set id (some x), G.hid⟩

/-- An object comes to be, in a place that is kept for it. -/
theorem Rel.put {G : Gh} {m : Mem} {w w' : World} (h : Rel G m w) (hg : w.grownBy w' none) {id : Nat} {o₀ : AObj} (h₀ : m[id]? = some o₀) (hl₀ : o₀.live = false)
    {o : AObj} (hl : o.live = true) {cs : Array Value} {g : Nat} (hlt : w.heap.size ≤ g) (hlt' : g < w'.heap.size) (hc : w'.heap[g]? = some (.cells cs o.ety (0, 0))) (hn : o.es.length * o.k ≤ cs.size)
    (he : ∀ (idx : Nat) (e : List CV), o.es[idx]? = some e → e.length = o.k ∧ ∀ (j : Nat) (x : CV), e[j]? = some x → ∃ v, cs[idx * o.k + j]? = some v ∧ CR G m w x v) :
    Ev G m w (G.set id (g, 0)) (m.set id o) w' ∧ Rel (G.set id (g, 0)) (m.set id o) w' := by
  have hid : id < m.length := (List.getElem?_eq_some_iff.1 h₀).1
  have hev : Ev G m w (G.set id (g, 0)) (m.set id o) w' :=
    { size := hg.size
      shape := fun b ty n hs => by rw [shape_of (hg.block b (World.shape_lt hs) (by simp))]; exact hs
      os := hg.os
      tape := hg.tape
      output := hg.output
      hid := rfl
      keep := fun b hb _ => hg.block b hb (by simp)
      new := fun b ⟨i, o', hb⟩ => by
        simp only [Gh.set, List.getElem?_set] at hb
        split at hb
        · split at hb
          · cases hb; exact .inr hlt
          · cases hb
        · exact .inl ⟨i, o', hb⟩
      obj := fun id' o' ho' hl' => by
        have hne : id ≠ id' := by
          rintro rfl
          rw [h₀] at ho'
          cases ho'
          rw [hl₀] at hl'
          cases hl'
        exact ⟨o', by rw [List.getElem?_set_ne hne]; exact ho', hl', Nat.le_refl _, fun _ => ⟨by simp only [Gh.set]; rw [List.getElem?_set_ne hne], rfl⟩⟩ }
  refine ⟨hev, ?_⟩
  exact
    { len := by simp [Gh.set, h.len]
      obj := fun id' o' ho' hl' => by
        by_cases hne : id = id'
        · subst hne
          rw [List.getElem?_set_self hid] at ho'
          cases ho'
          refine ⟨g, 0, by simp only [Gh.set]; rw [List.getElem?_set_self (by rw [h.len]; exact hid)], cs, hc, by omega, fun idx e hi => ⟨(he idx e hi).1, fun j x hj => ?_⟩⟩
          obtain ⟨v, hv, hx⟩ := (he idx e hi).2 j x hj
          exact ⟨v, by simpa using hv, hev.cr hx⟩
        · rw [List.getElem?_set_ne hne] at ho'
          obtain ⟨g', b', hat, hr⟩ := h.obj id' o' ho' hl'
          exact ⟨g', b', by simp only [Gh.set]; rw [List.getElem?_set_ne hne]; exact hat, hr.ev hev (hg.block g' (h.lt _ _ _ hat) (by simp))⟩
      inj := fun i j g₁ b₁ b₂ hi hj => by
        simp only [Gh.set, List.getElem?_set] at hi hj
        split at hi <;> split at hj
        · omega
        · split at hi
          · cases hi
            have := h.lt _ _ _ hj
            omega
          · cases hi
        · split at hj
          · cases hj
            have := h.lt _ _ _ hi
            omega
          · cases hj
        · exact h.inj i j g₁ b₁ b₂ hi hj
      lt := fun i g₁ b₁ hi => by
        simp only [Gh.set, List.getElem?_set] at hi
        split at hi
        · split at hi
          · cases hi; exact hlt'
          · cases hi
        · exact Nat.lt_of_lt_of_le (h.lt i g₁ b₁ hi) hg.size
      hid := fun i g₁ b₁ hi hh => by
        simp only [Gh.set, List.getElem?_set] at hi
        split at hi
        · split at hi
          · cases hi
            have := h.hlt _ hh
            omega
          · cases hi
        · exact h.hid i g₁ b₁ hi hh
      hlt := fun b hb => Nat.lt_of_lt_of_le (h.hlt b hb) hg.size
      dead := fun i x hi => by
        simp only [Gh.set, List.getElem?_set] at hi
        split at hi
        · rename_i he
          subst he
          exact ⟨o, List.getElem?_set_self hid, hl⟩
        · rename_i he
          rw [List.getElem?_set_ne he]
          exact h.dead i x hi }

/-- A place is kept. -/
theorem Rel.room {G : Gh} {m : Mem} {w : World} (h : Rel G m w) : Ev G m w ⟨G.at_ ++ [Option.none], G.hid⟩ (m ++ [AObj.none]) w ∧ Rel ⟨G.at_ ++ [Option.none], G.hid⟩ (m ++ [AObj.none]) w := by
  have hat : ∀ {i g b : Nat}, (G.at_ ++ [Option.none])[i]? = some (some (g, b)) → G.at_[i]? = some (some (g, b)) := by
    intro i g b hi
    rw [List.getElem?_append] at hi
    split at hi
    · exact hi
    · rename_i hn
      cases hj : i - G.at_.length with
      | zero => simp [hj] at hi
      | succ j => simp [hj] at hi
  have hat' : ∀ {i : Nat} {x : Nat × Nat}, G.at_[i]? = some (some x) → (G.at_ ++ [Option.none])[i]? = some (some x) := by
    intro i x hi
    rw [List.getElem?_append_left (List.getElem?_eq_some_iff.1 hi).1]
    exact hi
  have hev : Ev G m w ⟨G.at_ ++ [Option.none], G.hid⟩ (m ++ [AObj.none]) w :=
    { size := Nat.le_refl _, shape := fun _ _ _ h => h, os := rfl, tape := rfl, output := rfl, hid := rfl, keep := fun _ _ _ => rfl
      new := fun b ⟨i, o, hb⟩ => .inl ⟨i, o, hat hb⟩
      obj := fun id o ho hl => ⟨o, by rw [List.getElem?_append_left (List.getElem?_eq_some_iff.1 ho).1]; exact ho, hl, Nat.le_refl _, fun _ => ⟨by
        have : id < G.at_.length := by rw [h.len]; exact (List.getElem?_eq_some_iff.1 ho).1
        simp only
        rw [List.getElem?_append_left this], rfl⟩⟩ }
  refine ⟨hev, ?_⟩
  exact
    { len := by simp [h.len]
      obj := fun id o ho hl => by
        rw [List.getElem?_append] at ho
        split at ho
        · obtain ⟨g, b, hg, hr⟩ := h.obj id o ho hl
          exact ⟨g, b, hat' hg, hr.ev hev rfl⟩
        · cases hj : id - m.length with
          | zero =>
            simp [hj] at ho
            subst ho
            cases hl
          | succ j => simp [hj] at ho
      inj := fun i j g b b' hi hj => h.inj i j g b b' (hat hi) (hat hj)
      lt := fun i g b hi => h.lt i g b (hat hi)
      hid := fun i g b hi => h.hid i g b (hat hi)
      hlt := h.hlt
      dead := fun i x hi => by
        obtain ⟨o, ho, hl⟩ := h.dead i x (hat hi)
        exact ⟨o, by rw [List.getElem?_append_left (List.getElem?_eq_some_iff.1 ho).1]; exact ho, hl⟩ }

/-- An object comes to be behind all others. -/
theorem Rel.new {G : Gh} {m : Mem} {w w' : World} (h : Rel G m w) (hg : w.grownBy w' none) {o : AObj} (hl : o.live = true) {cs : Array Value} {g : Nat} (hlt : w.heap.size ≤ g) (hlt' : g < w'.heap.size) (hc : w'.heap[g]? = some (.cells cs o.ety (0, 0)))
    (hn : o.es.length * o.k ≤ cs.size) (he : ∀ (idx : Nat) (e : List CV), o.es[idx]? = some e → e.length = o.k ∧ ∀ (j : Nat) (x : CV), e[j]? = some x → ∃ v, cs[idx * o.k + j]? = some v ∧ CR G m w x v) :
    Ev G m w ⟨G.at_ ++ [some (g, 0)], G.hid⟩ (m ++ [o]) w' ∧ Rel ⟨G.at_ ++ [some (g, 0)], G.hid⟩ (m ++ [o]) w' := by
  obtain ⟨e1, r1⟩ := h.room
  have e : (m ++ [AObj.none]).set m.length o = m ++ [o] := by simp
  have e' : (⟨G.at_ ++ [Option.none], G.hid⟩ : Gh).set m.length (g, 0) = ⟨G.at_ ++ [some (g, 0)], G.hid⟩ := by simp [Gh.set, ← h.len]
  obtain ⟨e2, r2⟩ := r1.put hg (id := m.length) (o₀ := AObj.none) (by simp) rfl hl hlt hlt' hc hn (fun idx x hx => ⟨(he idx x hx).1, fun j y hj => by
    obtain ⟨v, hv, hr⟩ := (he idx x hx).2 j y hj
    exact ⟨v, hv, e1.cr hr⟩⟩)
  rw [e, e'] at e2 r2
  exact ⟨e1.trans e2, r2⟩

/-- An object is turned: in its block, or in a new one. -/
theorem Rel.turn {G : Gh} {m : Mem} {w w' : World} (h : Rel G m w) {id : Nat} {o : AObj} {g b : Nat} (ho : m[id]? = some o) (hl : o.live = true) (hat : G.at_[id]? = some (some (g, b)))
    (hg : w.grownBy w' (some g)) (hs : w'.shape? g = w.shape? g) {o' : AObj} {g' b' : Nat} (hl' : o'.live = true) (hv : o.ver ≤ o'.ver) (hv' : o'.ver = o.ver → g' = g ∧ b' = b ∧ o'.k = o.k)
    (hg' : g' = g ∨ w.heap.size ≤ g' ∧ g' < w'.heap.size) {cs : Array Value} (hc : w'.heap[g']? = some (.cells cs o'.ety (0, 0))) (hn : b' + o'.es.length * o'.k ≤ cs.size)
    (he : ∀ (idx : Nat) (e : List CV), o'.es[idx]? = some e → e.length = o'.k ∧ ∀ (j : Nat) (x : CV), e[j]? = some x → ∃ v, cs[b' + idx * o'.k + j]? = some v ∧ CR G m w x v) :
    Ev G m w (G.set id (g', b')) (m.set id o') w' ∧ Rel (G.set id (g', b')) (m.set id o') w' := by
  have hid : id < m.length := (List.getElem?_eq_some_iff.1 ho).1
  have hgl : g < w.heap.size := h.lt _ _ _ hat
  have hkeep : ∀ k, k < w.heap.size → k ≠ g → w'.heap[k]? = w.heap[k]? := fun k hk hne => hg.block k hk (by simpa using hne)
  have hev : Ev G m w (G.set id (g', b')) (m.set id o') w' :=
    { size := hg.size
      shape := fun k ty n hk => by
        by_cases hkg : k = g
        · subst hkg; rw [hs]; exact hk
        · rw [shape_of (hkeep k (World.shape_lt hk) hkg)]; exact hk
      os := hg.os
      tape := hg.tape
      output := hg.output
      hid := rfl
      keep := fun k hk hn => hkeep k hk fun e => hn (e ▸ ⟨id, b, hat⟩)
      new := fun k ⟨i, x, hk⟩ => by
        simp only [Gh.set, List.getElem?_set] at hk
        split at hk
        · split at hk
          · cases hk
            rcases hg' with rfl | ⟨hlt, _⟩
            · exact .inl ⟨id, b, hat⟩
            · exact .inr hlt
          · cases hk
        · exact .inl ⟨i, x, hk⟩
      obj := fun i x hi hx => by
        by_cases hne : id = i
        · subst hne
          rw [ho] at hi
          cases hi
          refine ⟨o', List.getElem?_set_self hid, hl', hv, fun e => ?_⟩
          obtain ⟨rfl, rfl, hk⟩ := hv' e
          exact ⟨by simp only [Gh.set]; rw [List.getElem?_set_self (by rw [h.len]; exact hid), hat], hk⟩
        · exact ⟨x, by rw [List.getElem?_set_ne hne]; exact hi, hx, Nat.le_refl _, fun _ => ⟨by simp only [Gh.set]; rw [List.getElem?_set_ne hne], rfl⟩⟩ }
  refine ⟨hev, ?_⟩
  exact
    { len := by simp [Gh.set, h.len]
      obj := fun i x hi hx => by
        by_cases hne : id = i
        · subst hne
          rw [List.getElem?_set_self hid] at hi
          cases hi
          refine ⟨g', b', by simp only [Gh.set]; rw [List.getElem?_set_self (by rw [h.len]; exact hid)], cs, hc, hn, fun idx e hi => ⟨(he idx e hi).1, fun j y hj => ?_⟩⟩
          obtain ⟨v, hv, hy⟩ := (he idx e hi).2 j y hj
          exact ⟨v, hv, hev.cr hy⟩
        · rw [List.getElem?_set_ne hne] at hi
          obtain ⟨g₁, b₁, hat₁, hr⟩ := h.obj i x hi hx
          have hg₁ : g₁ ≠ g := by
            rintro rfl
            exact hne (h.inj _ _ _ _ _ hat hat₁)
          exact ⟨g₁, b₁, by simp only [Gh.set]; rw [List.getElem?_set_ne hne]; exact hat₁, hr.ev hev (hkeep g₁ (h.lt _ _ _ hat₁) hg₁)⟩
      inj := fun i j g₁ b₁ b₂ hi hj => by
        simp only [Gh.set, List.getElem?_set] at hi hj
        have key : ∀ k x, G.at_[k]? = some (some (g', x)) → k = id := by
          intro k x hk
          rcases hg' with rfl | ⟨hlt, _⟩
          · exact h.inj _ _ _ _ _ hk hat
          · have := h.lt _ _ _ hk
            omega
        split at hi <;> split at hj
        · omega
        · split at hi
          · cases hi
            have := key _ _ hj
            omega
          · cases hi
        · split at hj
          · cases hj
            have := key _ _ hi
            omega
          · cases hj
        · exact h.inj i j g₁ b₁ b₂ hi hj
      lt := fun i g₁ b₁ hi => by
        simp only [Gh.set, List.getElem?_set] at hi
        split at hi
        · split at hi
          · cases hi
            rcases hg' with rfl | ⟨_, hlt⟩
            · exact Nat.lt_of_lt_of_le hgl hg.size
            · exact hlt
          · cases hi
        · exact Nat.lt_of_lt_of_le (h.lt i g₁ b₁ hi) hg.size
      hid := fun i g₁ b₁ hi hh => by
        simp only [Gh.set, List.getElem?_set] at hi
        split at hi
        · split at hi
          · cases hi
            rcases hg' with rfl | ⟨hlt, _⟩
            · exact h.hid _ _ _ hat hh
            · have := h.hlt _ hh
              omega
          · cases hi
        · exact h.hid i g₁ b₁ hi hh
      hlt := fun k hk => Nat.lt_of_lt_of_le (h.hlt k hk) hg.size
      dead := fun i x hi => by
        simp only [Gh.set, List.getElem?_set] at hi
        split at hi
        · rename_i he
          subst he
          exact ⟨o', List.getElem?_set_self hid, hl'⟩
        · rename_i he
          rw [List.getElem?_set_ne he]
          exact h.dead i x hi }

end Go.Ab

/- Operations that leave memory alone: what the machine does is what the abstract machine says. -/
namespace Go.Ab
open Go

structure TmR (G : Gh) (m : Mem) (w : World) (l : List TV) (a : Array Value) : Prop where
  len : l.length = a.size
  at_ : ∀ (i : Nat) x v, l[i]? = some x → a[i]? = some v → TVR G m w x v
theorem Ev.tm {G G' : Gh} {m m' : Mem} {w w' : World} (h : Ev G m w G' m' w') {l : List TV} {a : Array Value} (ht : TmR G m w l a) : TmR G' m' w' l a :=
  ⟨ht.len, fun i x v hi hv => h.tvr (ht.at_ i x v hi hv)⟩
theorem TmR.put {G : Gh} {m : Mem} {w : World} {l : List TV} {a : Act} (h : TmR G m w l a.tmps) (d : Option Nat) {x : TV} {v : Value} (hx : TVR G m w x v) : TmR G m w (putT l d x) (a.put d v).tmps := by
  cases d with
  | none => exact h
  | some d =>
    refine ⟨by simp [putT, Act.put, h.len], fun i y u hi hu => ?_⟩
    simp only [putT, Act.put, List.getElem?_set, Array.getElem?_setIfInBounds] at hi hu
    split at hi
    · split at hi
      · cases hi
        rename_i hd hl
        subst hd
        rw [if_pos rfl] at hu
        split at hu
        · cases hu
          exact hx
        · cases hu
      · cases hi
    · rename_i hd
      rw [if_neg hd] at hu
      exact h.at_ i y u hi hu

theorem undefR (G : Gh) (m : Mem) (w : World) : TVR G m w unitT undef := .t rfl (fun i x v hi => by simp at hi)

theorem constC_r {G : Gh} {m : Mem} {w : World} {v : Value} (h : oneCell v = true) : CR G m w (constC v) v := by
  unfold constC
  split
  · exact .tsl (.sl [] none 0 0 0 (fun _ _ => undef) rfl (Nat.le_refl _) (fun h => absurd h (by omega)) (fun i e j x hi => by simp at hi))
  · exact .p (.c v h)
theorem constT_r (G : Gh) (m : Mem) (w : World) (v : Value) : TVR G m w (constT v) v := by
  unfold constT
  split
  · rename_i vs
    cases h : vs.size == 0 with
    | true =>
      simp only [cond_true]
      exact .t (by simpa using (beq_iff_eq.1 h).symm) (fun i x v hi => by simp at hi)
    | false => exact .bad _
  · rename_i cs
    cases h : cs.toList.all oneCell with
    | true =>
      simp only [cond_true]
      refine .e (.a (by simp) fun i x v hi hv => ?_)
      simp only [List.getElem?_map, Option.map_eq_some_iff] at hi
      obtain ⟨y, hy, rfl⟩ := hi
      simp only [Array.getElem?_toList] at hy
      rw [hv] at hy
      cases hy
      exact constC_r (List.all_eq_true.1 h v (by rw [Array.mem_toList_iff]; exact Array.mem_of_getElem? hv))
    | false => exact .bad _
  · rename_i h1 h2
    refine .e (.c (constC_r ?_))
    cases v <;> first | rfl | (exact absurd rfl (h1 _)) | (exact absurd rfl (h2 _))

section
variable {G : Gh} {m : Mem} {w : World}
theorem ev_r {l : List TV} {a : Act} (h : TmR G m w l a.tmps) (x : Operand) : TVR G m w (ev l x) (a.eval x) := by
  cases x with
  | tmp t =>
    simp only [ev, Act.eval, getT]
    cases hl : l[t]? with
    | none =>
      have : a.tmps.size ≤ t := by
        have := List.getElem?_eq_none_iff.1 hl
        rw [h.len] at this
        exact this
      simp [this]
      exact undefR _ _ _
    | some v =>
      have ht : t < a.tmps.size := by
        rw [← h.len]
        exact (List.getElem?_eq_some_iff.1 hl).1
      have hv : a.tmps[t]? = some a.tmps[t] := by simp [ht]
      rw [Array.getD_eq_getD_getElem?, hv]
      exact h.at_ t v _ hl hv
  | const v => exact constT_r _ _ _ _
  | func f => exact .e (.c (.clo rfl rfl (fun i x y hi => by simp at hi) (fun i x y hi => by simp at hi)))
  | global g => exact .bad _

/-! ### What a value is -/
theorem tv_e {x : TE} {v : Value} (h : TVR G m w (.e x) v) : TER G m w x v := by cases h; assumption
theorem te_c {x : CV} {v : Value} (h : TER G m w (.c x) v) : CR G m w x v := by cases h; assumption
theorem cr_pc {x v : Value} (h : CR G m w (.p (.c x)) v) : v = x := by
  cases h with
  | p h => cases h; rfl
theorem tv_pc {x v : Value} (h : TVR G m w (.e (.c (.p (.c x)))) v) : v = x := cr_pc (te_c (tv_e h))
theorem cr_one {x : CV} {v : Value} (h : CR G m w x v) : oneCell v = true := by
  cases h with
  | p h => cases h with
    | c _ h => exact h
    | sl => rfl
  | _ => rfl
theorem asK_v {k : IntKind} {x : TV} {n : Int} {v : Value} (h : asK k x = some n) (hv : TVR G m w x v) : v = .int k n ∧ x = mkI k n := by
  unfold asK at h
  split at h
  · rename_i k' n'
    cases hk : decide (k' = k) with
    | true =>
      rw [hk] at h
      cases h
      obtain rfl := of_decide_eq_true hk
      exact ⟨tv_pc hv, rfl⟩
    | false => rw [hk] at h; cases h
  · cases h
theorem asI_v {x : TV} {n : Int} {v : Value} (h : asI x = some n) (hv : TVR G m w x v) : ∃ k, v = .int k n ∧ x = mkI k n := by
  unfold asI at h
  split at h
  · cases h; exact ⟨_, tv_pc hv, rfl⟩
  · cases h
theorem asB_v {x : TV} {b : Bool} {v : Value} (h : asB x = some b) (hv : TVR G m w x v) : v = .bool b ∧ x = mkB b := by
  unfold asB at h
  split at h
  · cases h; exact ⟨tv_pc hv, rfl⟩
  · cases h
theorem asS_v {x : TV} {s : ByteArray} {v : Value} (h : asS x = some s) (hv : TVR G m w x v) : v = .string s ∧ x = mkS s := by
  unfold asS at h
  split at h
  · cases h; exact ⟨tv_pc hv, rfl⟩
  · cases h
theorem asE_v {x : TV} {e : TE} (h : asE x = some e) : x = .e e := by
  unfold asE at h
  split at h
  · cases h; rfl
  · cases h
theorem asC_v {x : TV} {e : CV} (h : asC x = some e) : x = .e (.c e) := by
  unfold asC at h
  split at h
  · cases h; rfl
  · cases h
theorem mkI_r (k : IntKind) (n : Int) : TVR G m w (mkI k n) (.int k n) := .e (.c (.p (.c _ rfl)))
theorem mkB_r (b : Bool) : TVR G m w (mkB b) (.bool b) := .e (.c (.p (.c _ rfl)))
theorem mkS_r (s : ByteArray) : TVR G m w (mkS s) (.string s) := .e (.c (.p (.c _ rfl)))

/-! ### Operators -/
variable {P : Program}
theorem run_aarith {op : BinOp} {k : IntKind} {x y : TV} {n : Int} (h : aarith op k x y = some n) {u v : Value} (hx : TVR G m w x u) (hy : TVR G m w y v) (t : TypeId) : (binOp op t u v).run P w = .ok (.int k n) w := by
  unfold aarith at h
  split at h
  · rename_i kx a ky b
    obtain rfl := tv_pc hx
    obtain rfl := tv_pc hy
    cases hk : decide (kx = k) with
    | false => rw [hk] at h; cases h
    | true =>
      rw [hk, cond_true] at h
      obtain rfl := of_decide_eq_true hk
      split at h
      · cases hb : decide (0 ≤ b) with
        | false => rw [hb] at h; cases h
        | true =>
          rw [hb] at h
          cases h
          have := of_decide_eq_true hb
          have hn : ¬ b < 0 := by omega
          simp [binOp, Op.shift, hn]
      · cases hb : decide (0 ≤ b) with
        | false => rw [hb] at h; cases h
        | true =>
          rw [hb] at h
          cases h
          have := of_decide_eq_true hb
          have hn : ¬ b < 0 := by omega
          simp [binOp, Op.shift, hn]
      · rename_i h1 h2
        cases hk2 : decide (ky = kx) with
        | false => rw [hk2] at h; cases h
        | true =>
          rw [hk2, cond_true] at h
          obtain rfl := of_decide_eq_true hk2
          split at h
          · cases h; simp [binOp, Op.intArith]
          · cases h; simp [binOp, Op.intArith]
          · cases h; simp [binOp, Op.intArith]
          · cases hb : b == 0 with
            | true => rw [hb] at h; cases h
            | false =>
              rw [hb] at h
              cases h
              have : ¬ b = 0 := by simpa using hb
              simp [binOp, Op.intDiv, this]
          · cases hb : b == 0 with
            | true => rw [hb] at h; cases h
            | false =>
              rw [hb] at h
              cases h
              have : ¬ b = 0 := by simpa using hb
              simp [binOp, Op.intDiv, this]
          · unfold abits at h
            split at h <;> first | (cases h; unfold binOp; simp [Op.intBits]; done) | (cases h; unfold binOp; dsimp only; rw [if_neg (by simp)]; rfl) | cases h
  · cases h
theorem run_aconvI {k : IntKind} {x : TV} {n : Int} (h : aconvI k x = some n) {u : Value} (hx : TVR G m w x u) : ∃ k' n', u = .int k' n' ∧ n = k.wrap n' := by
  unfold aconvI at h
  split at h
  · rename_i n' hn
    obtain ⟨k', rfl, _⟩ := asI_v hn hx
    cases h
    exact ⟨k', n', rfl, rfl⟩
  · cases h
theorem run_acat {x y : TV} {s : ByteArray} (h : acat x y = some s) {u v : Value} (hx : TVR G m w x u) (hy : TVR G m w y v) : ∃ a b, u = .string a ∧ v = .string b ∧ s = a ++ b ∧ a.size + b.size ≤ 9223372036854775807 := by
  unfold acat at h
  split at h
  · rename_i a b
    cases hc : decide (a.size + b.size ≤ 9223372036854775807) with
    | true =>
      rw [hc] at h
      cases h
      exact ⟨_, _, tv_pc hx, tv_pc hy, rfl, of_decide_eq_true hc⟩
    | false => rw [hc] at h; cases h
  · cases h
end
end Go.Ab

/- Loads, and what a slice holds. -/
namespace Go.Ab
open Go

/-- Some cells in memory. -/
def At (G : Gh) (m : Mem) (w : World) (g o : Nat) (cs : List CV) : Prop := ∀ (j : Nat) (x : CV), cs[j]? = some x → ∃ v, w.cell? (cellAt g (o + j)) = some v ∧ CR G m w x v
theorem add_cellAt (g o j : Nat) : (cellAt g o).add j = cellAt g (o + j) := by
  unfold Addr.add
  split
  · rename_i h; subst h; rfl
  · rfl

section
variable {G : Gh} {m : Mem} {w : World}
theorem At.drop {g o : Nat} {cs : List CV} (h : At G m w g o cs) (n : Nat) : At G m w g (o + n) (cs.drop n) := by
  intro j x hj
  rw [List.getElem?_drop] at hj
  obtain ⟨v, hv, hx⟩ := h _ x hj
  exact ⟨v, by rw [Nat.add_assoc]; exact hv, hx⟩
theorem At.take {g o : Nat} {cs : List CV} (h : At G m w g o cs) (n : Nat) : At G m w g o (cs.take n) := by
  intro j x hj
  rw [List.getElem?_take] at hj
  split at hj
  · exact h j x hj
  · cases hj
theorem mem_at {id ver : Nat} {o : AObj} (h : Mem.at? m id ver = some o) : m[id]? = some o ∧ o.live = true ∧ o.ver = ver := by
  unfold Mem.at? at h
  split at h
  · rename_i o' ho
    cases hc : o'.live && o'.ver == ver with
    | true =>
      rw [hc] at h
      cases h
      simp only [Bool.and_eq_true, beq_iff_eq] at hc
      exact ⟨ho, hc.1, hc.2⟩
    | false => rw [hc] at h; cases h
  · cases h
/-- An object's elements in their block. -/
theorem obj_at (hR : Rel G m w) {id : Nat} {o : AObj} (ho : m[id]? = some o) (hl : o.live = true) : ∃ g b, G.at_[id]? = some (some (g, b)) ∧ g < w.heap.size ∧
    (∃ n, w.shape? g = some (o.ety, n) ∧ b + o.es.length * o.k ≤ n) ∧ ∀ (idx : Nat) (e : List CV), o.es[idx]? = some e → e.length = o.k ∧ At G m w g (b + idx * o.k) e := by
  obtain ⟨g, b, hat, ⟨cs, hc, hn, he⟩⟩ := hR.obj id o ho hl
  refine ⟨g, b, hat, hR.lt _ _ _ hat, ⟨cs.size, by simp [World.shape?, hc], hn⟩, fun idx e hi => ⟨(he idx e hi).1, fun j x hj => ?_⟩⟩
  obtain ⟨v, hv, hx⟩ := (he idx e hi).2 j x hj
  exact ⟨v, by simp [World.cell?, hc, hv], hx⟩
theorem obj_free (hR : Rel G m w) {id g b : Nat} {o : AObj} (ho : m[id]? = some o) (hl : o.live = true) (hat : G.at_[id]? = some (some (g, b))) (j : Nat) : w.frozen? (cellAt g j) = false := by
  obtain ⟨g', b', hat', ⟨cs, hc, _⟩⟩ := hR.obj id o ho hl
  rw [hat] at hat'
  cases hat'
  simp [World.frozen?, hc]

/-- Where an address leads. -/
inductive Leads (G : Gh) (m : Mem) (w : World) (v : Value) (cs : List CV) : Prop where
  | mk (g o : Nat) (hv : v = .pointer (some (cellAt g o))) (h : At G m w g o cs)

theorem ip_at {cs : List PV} {b o : Nat} {cv : Nat → Value} (h : ∀ (j : Nat) (x : PV), cs[j]? = some x → w.cell? (cellAt b (o + j)) = some (cv j)) (h' : ∀ (j : Nat) (x : PV), cs[j]? = some x → PR (G.ok w) w x (cv j)) :
    At G m w b o (cs.map .p) := by
  intro j x hj
  simp only [List.getElem?_map, Option.map_eq_some_iff] at hj
  obtain ⟨y, hy, rfl⟩ := hj
  exact ⟨cv j, h j y hy, .p (h' j y hy)⟩

theorem aload_at (hR : Rel G m w) {n : Nat} {agg : Bool} {a : TV} {te : TE} {v : Value} (h : aload n agg a m = some te) (hv : TVR G m w a v) : ∃ cs, Leads G m w v cs ∧ pick n agg cs = some te := by
  unfold aload at h
  split at h
  · rename_i id ver idx off
    split at h
    · rename_i o hm0
      obtain ⟨ho, hl, hver⟩ := mem_at hm0
      subst hver
      split at h
      · rename_i e he
        obtain ⟨g, b, hat, _, _, hat'⟩ := obj_at hR ho hl
        cases te_c (tv_e hv) with
        | ref o' ho' _ _ hg =>
          rw [ho] at ho'
          cases ho'
          obtain ⟨g', b', hat2, rfl⟩ := hg rfl
          rw [hat] at hat2
          cases hat2
          exact ⟨_, ⟨g, _, rfl, (hat' idx e he).2.drop off⟩, h⟩
      · cases h
    · cases h
  · rename_i cs off
    cases te_c (tv_e hv) with
    | ip b o cv hb hc hp =>
      refine ⟨_, ⟨b, _, rfl, ?_⟩, h⟩
      have := (ip_at (G := G) (m := m) hc hp).drop off
      rwa [← List.map_drop] at this
  · cases h

theorem choose_vals {g o n : Nat} {cs : List CV} (h : At G m w g o cs) (hn : n ≤ cs.length) : ∃ f : Nat → Value, (∀ j, j < n → w.cell? (cellAt g (o + j)) = some (f j)) ∧ ∀ (j : Nat) x, j < n → cs[j]? = some x → CR G m w x (f j) := by
  have : ∀ j, ∃ v, j < n → w.cell? (cellAt g (o + j)) = some v ∧ ∀ x, cs[j]? = some x → CR G m w x v := by
    intro j
    by_cases hj : j < n
    · have hx : cs[j]? = some cs[j] := List.getElem?_eq_getElem (by omega)
      obtain ⟨v, hv, hr⟩ := h j _ hx
      exact ⟨v, fun _ => ⟨hv, fun x hx' => by rw [hx] at hx'; cases hx'; exact hr⟩⟩
    · exact ⟨undef, fun h => absurd h hj⟩
  refine ⟨fun j => (this j).choose, fun j hj => ((this j).choose_spec hj).1, fun j x hj hx => ((this j).choose_spec hj).2 x hx⟩

variable {P : Program}
theorem run_loadVar {t : TypeId} {d : TypeDesc} (hd : P.underlying t = some d) {g o : Nat} {cs : List CV} (h : At G m w g o cs) {te : TE} (hp : pick (P.cellsOf t) (isAggT P t) cs = some te) :
    ∃ u, (loadVar t (cellAt g o)).run P w = .ok u w ∧ TER G m w te u := by
  obtain ⟨i, hi⟩ : ∃ i, P.info? t = some i := by
    unfold Program.underlying at hd
    split at hd
    · exact ⟨_, by assumption⟩
    · exact ⟨_, by assumption⟩
    · cases hd
  have hsz : P.cellsOf t = i.size := by simp [Program.cellsOf, hi]
  have hag : (isAgg t).run P w = .ok (isAggT P t) w := by
    simp only [isAgg, Sem.run_bind, run_underlying hd, Result.andThen_ok, isAggT, hd]
    split <;> simp_all
  cases ha : isAggT P t with
  | true =>
    rw [ha, hsz] at hp
    simp only [pick] at hp
    cases hc : decide (i.size ≤ cs.length) with
    | false => rw [hc] at hp; cases hp
    | true =>
      rw [hc] at hp
      cases hp
      obtain ⟨f, hf, hr⟩ := choose_vals h (of_decide_eq_true hc)
      have hl := run_loadCells (P := P) w (cellAt g o) i.size f (fun j hj => by rw [add_cellAt]; exact hf j hj)
      refine ⟨.agg ((List.range i.size).map f).toArray, by simp [loadVar, hag, ha, sizeOf, typeInfo, hi, hl], .a (by simp [of_decide_eq_true hc]) fun j x v hj hv => ?_⟩
      simp only [List.getElem?_take] at hj
      split at hj
      · rename_i hlt
        simp [hlt] at hv
        subst hv
        exact hr j x hlt hj
      · cases hj
  | false =>
    rw [ha] at hp
    simp only [pick] at hp
    split at hp
    · rename_i x _
      cases hp
      obtain ⟨v, hv, hr⟩ := h 0 x rfl
      refine ⟨v, ?_, .c hr⟩
      simp only [Nat.add_zero] at hv
      simp [loadVar, hag, ha, hv]
    · cases hp
theorem run_aload (hR : Rel G m w) {t : TypeId} {d : TypeDesc} (hd : P.underlying t = some d) {a : TV} {te : TE} {v : Value} (h : aload (P.cellsOf t) (isAggT P t) a m = some te) (hv : TVR G m w a v) :
    ∃ u, (Instr.loadAt t v).run P w = .ok u w ∧ TER G m w te u ∧ ∃ g o, v = .pointer (some (cellAt g o)) := by
  obtain ⟨cs, ⟨g, o, rfl, hat⟩, hp⟩ := aload_at hR h hv
  obtain ⟨u, hu, hr⟩ := run_loadVar hd hat hp
  exact ⟨u, by simp [Instr.loadAt, Instr.sureAddr, hu], hr, g, o, rfl⟩

/-! ### What a slice, or a text, holds -/
/-- A row of elements of k cells each. -/
def Row (G : Gh) (m : Mem) (w : World) (g o k : Nat) (es : List (List CV)) : Prop := ∀ (i : Nat) (e : List CV), es[i]? = some e → e.length = k ∧ At G m w g (o + i * k) e
inductive Holds (G : Gh) (m : Mem) (w : World) (es : List (List CV)) : Value → Prop
  | str (s : ByteArray) (h : es = s.data.toList.map fun b => [CV.p (.c (.int .u8 (b.toNat : Int)))]) : Holds G m w es (.string s)
  | nil (A : Option Addr) (cap : Nat) (h : es = []) : Holds G m w es (.slice A 0 cap)
  | row (g o k cap : Nat) (hc : es.length ≤ cap) (h : Row G m w g o k es) : Holds G m w es (.slice (some (cellAt g o)) es.length cap)
theorem Row.sub {g o k : Nat} {es : List (List CV)} (h : Row G m w g o k es) (off len : Nat) : Row G m w g (o + off * k) k ((es.drop off).take len) := by
  intro i e he
  rw [List.getElem?_take] at he
  split at he
  · rw [List.getElem?_drop] at he
    obtain ⟨h1, h2⟩ := h _ e he
    refine ⟨h1, ?_⟩
    rw [Nat.add_assoc, ← Nat.add_mul]
    exact h2
  · cases he
theorem pr_holds {es : List (List PV)} {v : Value} (h : PR (G.ok w) w (.sl es) v) : Holds G m w (es.map (·.map .p)) v ∧ ∃ A cap, v = .slice A es.length cap := by
  cases h with
  | sl _ A n cap k cv hn hcap hA hp =>
    subst hn
    refine ⟨?_, A, cap, rfl⟩
    cases es with
    | nil => exact .nil A cap rfl
    | cons e0 es0 =>
      obtain ⟨b, o, rfl, _, hc⟩ := hA (by simp)
      have hrow : Row G m w b o k ((e0 :: es0).map (·.map .p)) := by
        intro i e he
        simp only [List.getElem?_map, Option.map_eq_some_iff] at he
        obtain ⟨e', he', rfl⟩ := he
        obtain ⟨h1, h2⟩ := hc i e' he'
        refine ⟨by simpa using h1, ip_at (cv := cv i) (fun j x hj => ?_) (fun j x hj => hp i e' j x he' hj)⟩
        rw [Nat.add_assoc]
        exact h2 j x hj
      have := Holds.row (G := G) (m := m) (w := w) (es := (e0 :: es0).map (·.map .p)) b o k cap (by simpa using hcap) hrow
      simpa using this
theorem elems_holds (hR : Rel G m w) {x : TV} {es : List (List CV)} {v : Value} (h : elems x m = some es) (hv : TVR G m w x v) : Holds G m w es v := by
  unfold elems at h
  split at h
  · cases h
    cases te_c (tv_e hv) with
    | tsl h => exact (pr_holds h).1
  · cases h
    cases te_c (tv_e hv) with
    | p h => exact (pr_holds h).1
  · rename_i id ver off len
    split at h
    · rename_i o hm0
      obtain ⟨ho, hl, hver⟩ := mem_at hm0
      subst hver
      cases hc : decide (off + len ≤ o.es.length) with
      | false => rw [hc] at h; cases h
      | true =>
        rw [hc] at h
        cases h
        obtain ⟨g, b, hat, _, _, hrow⟩ := obj_at hR ho hl
        have hlen : ((o.es.drop off).take len).length = len := by simp; have := of_decide_eq_true hc; omega
        cases te_c (tv_e hv) with
        | oref o' ho' _ _ hcap hg =>
          rw [ho] at ho'
          cases ho'
          obtain ⟨g', b', hat2, ha, _⟩ := hg rfl
          rw [hat] at hat2
          cases hat2
          rcases Nat.eq_zero_or_pos len with h0 | h0
          · subst h0
            exact .nil _ _ (by simp)
          · obtain rfl := ha (by omega)
            have hh := fun c (hc : ((o.es.drop off).take len).length ≤ c) => Holds.row (G := G) (m := m) (w := w) (es := (o.es.drop off).take len) g (b + off * o.k) o.k c hc (Row.sub hrow off len)
            rw [hlen] at hh
            exact hh _ hcap
    · cases h
  · rename_i id ver off len
    split at h
    · rename_i o hm0
      obtain ⟨ho, hl, hver⟩ := mem_at hm0
      subst hver
      cases hc : decide (off + len ≤ o.es.length) with
      | false => rw [hc] at h; cases h
      | true =>
        rw [hc] at h
        cases h
        obtain ⟨g, b, hat, _, _, hrow⟩ := obj_at hR ho hl
        have hlen : ((o.es.drop off).take len).length = len := by simp; have := of_decide_eq_true hc; omega
        cases te_c (tv_e hv) with
        | toref o' ho' _ _ hg =>
          rw [ho] at ho'
          cases ho'
          obtain ⟨g', b', hat2, ha⟩ := hg rfl
          rw [hat] at hat2
          cases hat2
          rcases Nat.eq_zero_or_pos len with h0 | h0
          · subst h0
            exact .nil _ _ (by simp)
          · obtain rfl := ha h0
            have := Holds.row (G := G) (m := m) (w := w) (es := (o.es.drop off).take len) g (b + off * o.k) o.k len (by omega) (Row.sub hrow off len)
            rwa [hlen] at this
    · cases h
  · rename_i s
    cases h
    obtain rfl := tv_pc hv
    exact .str s rfl
  · cases h
theorem alen_r {x : TV} {n : Int} {v : Value} (h : alen x = some n) (hv : TVR G m w x v) : (∃ (A : Option Addr) (k cap : Nat), v = .slice A k cap ∧ n = k) ∨ ∃ s, v = .string s ∧ n = s.size := by
  unfold alen at h
  split at h
  · cases h
    cases te_c (tv_e hv) with
    | tsl h => obtain ⟨A, cap, e⟩ := (pr_holds (m := m) h).2; exact .inl ⟨A, _, cap, e, rfl⟩
  · cases h
    cases te_c (tv_e hv) with
    | toref => exact .inl ⟨_, _, _, rfl, rfl⟩
  · cases h
    cases te_c (tv_e hv) with
    | p h => obtain ⟨A, cap, e⟩ := (pr_holds (m := m) h).2; exact .inl ⟨A, _, cap, e, rfl⟩
  · cases h
    cases te_c (tv_e hv) with
    | oref => exact .inl ⟨_, _, _, rfl, rfl⟩
  · cases h
    exact .inr ⟨_, tv_pc hv, rfl⟩
  · cases h
end
end Go.Ab

/- New objects, stores, appends. -/
namespace Go.Ab
open Go

/-- A new block holds an object. -/
structure NewObj (G : Gh) (m : Mem) (w w' : World) (o : AObj) (g : Nat) : Prop where
  live : o.live = true
  grown : w.grownBy w' none
  lo : w.heap.size ≤ g
  hi : g < w'.heap.size
  row : ∃ cs : Array Value, w'.heap[g]? = some (.cells cs o.ety (0, 0)) ∧ o.es.length * o.k ≤ cs.size ∧
    ∀ (idx : Nat) (e : List CV), o.es[idx]? = some e → e.length = o.k ∧ ∀ (j : Nat) (x : CV), e[j]? = some x → ∃ v, cs[idx * o.k + j]? = some v ∧ CR G m w x v

section
variable {G : Gh} {m : Mem} {w w' : World}
theorem NewObj.new {o : AObj} {g : Nat} (h : NewObj G m w w' o g) (hR : Rel G m w) :
    Ev G m w ⟨G.at_ ++ [some (g, 0)], G.hid⟩ (m ++ [o]) w' ∧ Rel ⟨G.at_ ++ [some (g, 0)], G.hid⟩ (m ++ [o]) w' := by
  obtain ⟨cs, h1, h2, h3⟩ := h.row
  exact hR.new h.grown h.live h.lo h.hi h1 h2 h3
theorem NewObj.put {o : AObj} {g : Nat} (h : NewObj G m w w' o g) (hR : Rel G m w) {id : Nat} {o₀ : AObj} (h₀ : m[id]? = some o₀) (hl₀ : o₀.live = false) :
    Ev G m w (G.set id (g, 0)) (m.set id o) w' ∧ Rel (G.set id (g, 0)) (m.set id o) w' := by
  obtain ⟨cs, h1, h2, h3⟩ := h.row
  exact hR.put h.grown h₀ hl₀ h.live h.lo h.hi h1 h2 h3

theorem grown_alloc (o : Obj) : w.grownBy (w.alloc o) none := World.grownBy_alloc w o none
/-- The cells of a struct, or the one of another value. -/
theorem te_cells {te : TE} {v : Value} (h : TER G m w te v) : v.cells.size = te.cells.length ∧ ∀ (j : Nat) (x : CV), te.cells[j]? = some x → ∃ u, v.cells[j]? = some u ∧ CR G m w x u := by
  cases h with
  | c h =>
    have h1 := cr_one h
    have hc : v.cells = #[v] := by cases v <;> first | rfl | cases h1
    refine ⟨by rw [hc]; rfl, fun j x hj => ?_⟩
    cases j with
    | zero => cases hj; exact ⟨v, by rw [hc]; rfl, h⟩
    | succ j => simp [TE.cells] at hj
  | a hn h =>
    refine ⟨by simp [Value.cells, TE.cells, hn], fun j x hj => ?_⟩
    simp only [TE.cells] at hj
    rename_i cs vs
    have hlt : j < vs.size := by rw [← hn]; exact (List.getElem?_eq_some_iff.1 hj).1
    exact ⟨vs[j], by simp [Value.cells, hlt], h j x _ hj (by simp [hlt])⟩

variable {P : Program}
theorem zeroE_r {e : TypeId} {z : TE} (h : zeroE P e = some z) : ∃ i v, P.info? e = some i ∧ i.zero = some v ∧ ∀ (G : Gh) (m : Mem) (w : World), TER G m w z v := by
  unfold zeroE at h
  split at h
  · rename_i i hi
    split at h
    · rename_i v hv
      refine ⟨i, v, hi, hv, fun G m w => ?_⟩
      unfold constE at h
      have := constT_r G m w v
      split at h
      · rename_i x hx
        cases h
        rw [hx] at this
        exact tv_e this
      · cases h
    · cases h
  · cases h
theorem box_new {te : TE} {v : Value} (h : TER G m w te v) (e : TypeId) : NewObj G m w (w.alloc (.cells v.cells e)) (boxObj e te.cells) w.heap.size := by
  obtain ⟨h1, h2⟩ := te_cells h
  refine ⟨rfl, grown_alloc _, Nat.le_refl _, by simp, v.cells, heap_alloc_new w _, by simp [boxObj, h1], fun idx x hx => ?_⟩
  cases idx with
  | zero =>
    simp only [boxObj, List.getElem?_cons_zero, Option.some.injEq] at hx
    subst hx
    exact ⟨rfl, fun j y hy => by simpa using h2 j y hy⟩
  | succ i => simp [boxObj] at hx
theorem run_box {te : TE} {v : Value} (h : TER G m w te v) (e : TypeId) : ∃ w', (Instr.box e v).run P w = .ok (.pointer (some (cellAt w.heap.size 0))) w' ∧ NewObj G m w w' (boxObj e te.cells) w.heap.size :=
  ⟨_, by simp [Instr.box, newVar, newRow], box_new h e⟩
theorem run_alloc {e : TypeId} {z : TE} (h : zeroE P e = some z) : ∃ w', (Instr.alloc e true (.tuple #[])).run P w = .ok (.pointer (some (cellAt w.heap.size 0))) w' ∧ NewObj G m w w' (boxObj e z.cells) w.heap.size := by
  obtain ⟨i, v, hi, hz, hr⟩ := zeroE_r h
  exact ⟨_, by simp [Instr.alloc, zeroValue, typeInfo, hi, hz, newVar, newRow], box_new (hr G m w) e⟩

/-- A store: the cells of an element from 'off' on are others. -/
theorem run_astore (hR : Rel G m w) {t : TypeId} {i : TypeInfo} (hi : P.info? t = some i) {a x : TV} {m' : Mem} {va vx : Value} (h : astore (P.cellsOf t) a x m = some m') (ha : TVR G m w a va) (hx : TVR G m w x vx) :
    ∃ id o idx off es' w' g b, a = .e (.c (.ref id o.ver idx off)) ∧ m[id]? = some o ∧ m' = m.set id { o with es := es' } ∧ (Instr.storeAt t va vx).run P w = .ok () w' ∧ G.at_[id]? = some (some (g, b)) ∧
      Ev G m w (G.set id (g, b)) m' w' ∧ Rel (G.set id (g, b)) m' w' := by
  unfold astore at h
  split at h
  · rename_i id ver idx off te
    split at h
    · rename_i o hm0
      obtain ⟨ho, hl, hver⟩ := mem_at hm0
      subst hver
      split at h
      · rename_i e he
        cases hc : te.cells.length == P.cellsOf t && decide (off + P.cellsOf t ≤ e.length) with
        | false => rw [hc] at h; cases h
        | true =>
          rw [hc] at h
          cases h
          simp only [Bool.and_eq_true, beq_iff_eq, decide_eq_true_eq] at hc
          obtain ⟨hn, hoff⟩ := hc
          obtain ⟨g, b, hat, ⟨cs, hcs, hsz, hes⟩⟩ := hR.obj id o ho hl
          obtain ⟨hel, _⟩ := hes idx e he
          cases te_c (tv_e ha) with
          | ref o' ho' _ _ hg =>
            rw [ho] at ho'
            cases ho'
            obtain ⟨g', b', hat2, rfl⟩ := hg rfl
            rw [hat] at hat2
            cases hat2
            obtain ⟨h1, h2⟩ := te_cells (tv_e hx)
            have hvc : vx.cells.size = i.size := by rw [h1, hn]; simp [Program.cellsOf, hi]
            have hidx : idx < o.es.length := (List.getElem?_eq_some_iff.1 he).1
            have hlen : b + idx * o.k + off + vx.cells.toList.length ≤ cs.size := by
              have : (idx + 1) * o.k ≤ o.es.length * o.k := Nat.mul_le_mul_right _ hidx
              rw [Nat.add_mul] at this
              simp only [Array.length_toList, h1, hn]
              omega
            have hone : ∀ u ∈ vx.cells.toList, u.oneCell' = true := by
              intro u hu
              obtain ⟨j, hj, rfl⟩ := List.getElem_of_mem hu
              simp only [Array.length_toList] at hj
              obtain ⟨u', hu', hr⟩ := h2 j te.cells[j] (List.getElem?_eq_getElem (by omega))
              have hj' : vx.cells[j]? = some vx.cells[j] := by simp [hj]
              rw [hj'] at hu'
              cases hu'
              have := cr_one hr
              simp only [Array.getElem_toList]
              generalize vx.cells[j] = y at this
              cases y <;> first | rfl | cases this
            have hst := run_storeCells_at (P := P) g (b + idx * o.k + off) o.ety vx.cells.toList 0 cs w hcs (by simpa using hlen) hone
            simp only [Nat.add_zero] at hst
            generalize hcs' : (cs.toList.take (b + idx * o.k + off) ++ vx.cells.toList ++ cs.toList.drop (b + idx * o.k + off + vx.cells.toList.length)).toArray = cs' at hst
            refine ⟨id, o, idx, off, o.es.set idx (updC e off te.cells), w.setRow g cs', g, b, rfl, ho, rfl, ?_, hat, ?_⟩
            · simp only [Instr.storeAt, Instr.sureAddr, Sem.run_bind, Sem.run_pure, Result.andThen_ok, storeVar, sizeOf, typeInfo, run_program, hi]
              simp [hvc, hst]
            · have hcl : ∀ k, cs'[k]? = if b + idx * o.k + off ≤ k ∧ k < b + idx * o.k + off + te.cells.length then vx.cells[k - (b + idx * o.k + off)]? else cs[k]? := by
                intro k
                subst hcs'
                simp only [Array.length_toList] at hlen
                simp only [List.append_assoc, List.getElem?_toArray, List.getElem?_append, List.length_take, Array.length_toList, List.getElem?_take, List.getElem?_drop, Array.getElem?_toList]
                rw [Nat.min_eq_left (by omega)]
                by_cases c1 : k < b + idx * o.k + off
                · rw [if_pos c1, if_pos c1, if_neg (by omega)]
                · rw [if_neg c1]
                  by_cases c2 : k - (b + idx * o.k + off) < vx.cells.size
                  · rw [if_pos c2, if_pos (by omega)]
                  · rw [if_neg c2, if_neg (by omega)]
                    congr 1
                    omega
              have hcsz : cs'.size = cs.size := by
                subst hcs'
                simp only [Array.length_toList] at hlen
                simp
                omega
              have hgl : g < w.heap.size := hR.lt _ _ _ hat
              have hheap : (w.setRow g cs').heap[g]? = some (.cells cs' o.ety (0, 0)) := setRow_heap w g cs cs' o.ety (0, 0) hcs
              have hgr : w.grownBy (w.setRow g cs') (some g) := ⟨rfl, rfl, rfl, by simp [World.setRow], fun k hk hne => by
                simp only [World.setRow]
                rw [Array.getElem?_modify]
                rw [if_neg (by rintro rfl; exact hne rfl)]⟩
              refine hR.turn ho hl hat hgr (by simp [World.shape?, hheap, hcs, hcsz]) (o' := { o with es := o.es.set idx (updC e off te.cells) }) hl (Nat.le_refl _) (fun _ => ⟨rfl, rfl, rfl⟩) (.inl rfl) hheap (by simpa [hcsz] using hsz) fun i' e' he' => ?_
              dsimp only at he' ⊢
              simp only [List.getElem?_set] at he'
              by_cases hii : idx = i'
              · subst hii
                rw [if_pos rfl, if_pos hidx] at he'
                cases he'
                refine ⟨by simp [updC]; omega, fun j y hy => ?_⟩
                simp only [updC, List.append_assoc, List.getElem?_append, List.length_take, List.getElem?_take, List.getElem?_drop] at hy
                rw [Nat.min_eq_left (by omega)] at hy
                rw [hcl]
                by_cases c1 : j < off
                · rw [if_pos c1, if_pos c1] at hy
                  rw [if_neg (by omega)]
                  exact (hes idx e he).2 j y hy
                · rw [if_neg c1] at hy
                  by_cases c2 : j - off < te.cells.length
                  · rw [if_pos c2] at hy
                    rw [if_pos (by omega)]
                    obtain ⟨u, hu, hr⟩ := h2 _ y hy
                    exact ⟨u, by rw [← hu]; congr 1; omega, hr⟩
                  · rw [if_neg c2] at hy
                    rw [if_neg (by omega)]
                    have : off + te.cells.length + (j - off - te.cells.length) = j := by omega
                    rw [this] at hy
                    exact (hes idx e he).2 j y hy
              · rw [if_neg hii] at he'
                obtain ⟨hk, hh⟩ := hes i' e' he'
                refine ⟨hk, fun j y hy => ?_⟩
                have hj : j < o.k := by rw [← hk]; exact (List.getElem?_eq_some_iff.1 hy).1
                rw [hcl, if_neg]
                · exact hh j y hy
                · rintro ⟨h3, h4⟩
                  rcases Nat.lt_or_gt_of_ne hii with hlt | hlt
                  · have : (idx + 1) * o.k ≤ i' * o.k := Nat.mul_le_mul_right _ hlt
                    rw [Nat.add_mul] at this
                    omega
                  · have : (i' + 1) * o.k ≤ idx * o.k := Nat.mul_le_mul_right _ hlt
                    rw [Nat.add_mul] at this
                    omega
      · cases h
    · cases h
  · cases h
end
end Go.Ab

/- What an operation comes to, apart from what follows. -/
namespace Go.Ab
open Go

/-- Two algebras go alike. -/
structure Hom {R S : Type} (A : Alg R) (B : Alg S) (r : R → S → Prop) : Prop where
  fail : r A.fail B.fail
  out : ∀ o, r (A.out o) (B.out o)
  ask : ∀ (c : Cfg) {k : Out → R} {k' : Out → S}, (∀ o, r (k o) (k' o)) → r (A.ask c k) (B.ask c k')
section
variable {R S : Type} {A : Alg R} {B : Alg S} {r : R → S → Prop}
theorem Hom.bind (hm : Hom A B r) {α : Type} (x : Option α) {k : α → R} {k' : α → S} (h : ∀ o, r (k o) (k' o)) : r (A.bind x k) (B.bind x k') := by
  cases x with
  | none => exact hm.fail
  | some y => exact h y
theorem Hom.cond (_hm : Hom A B r) (b : Bool) {x y : R} {u v : S} (h1 : r x u) (h2 : r y v) : r (cond b x y) (cond b u v) := by
  cases b <;> assumption
theorem Hom.typed (hm : Hom A B r) {P : Program} {ty : TypeId} {v : TV} {k : TV → R} {k' : TV → S} (h : ∀ v, r (k v) (k' v)) : r (typedK A P ty v k) (typedK B P ty v k') := by
  unfold typedK
  split
  · exact hm.bind _ fun _ => h _
  · exact hm.bind _ fun _ => h _
  · exact hm.bind _ fun _ => h _
  · exact h _
  · exact hm.bind _ fun _ => h _
  · exact hm.fail
theorem Hom.zero (hm : Hom A B r) {P : Program} {e : TypeId} {k : TE → R} {k' : TE → S} (h : ∀ v, r (k v) (k' v)) : r (zeroK A P e k) (zeroK B P e k') :=
  hm.bind _ fun _ => hm.cond _ (h _) hm.fail
theorem Hom.takeE (hm : Hom A B r) : ∀ (l : List TV) {k : List TE → R} {k' : List TE → S}, (∀ vs, r (k vs) (k' vs)) → r (takeE A l k) (takeE B l k')
  | [], _, _, h => h _
  | _ :: xs, _, _, h => hm.bind _ fun y => Hom.takeE hm xs fun ys => h (y :: ys)
theorem Hom.takeC (hm : Hom A B r) : ∀ (l : List TV) {k : List CV → R} {k' : List CV → S}, (∀ vs, r (k vs) (k' vs)) → r (takeC A l k) (takeC B l k')
  | [], _, _, h => h _
  | _ :: xs, _, _, h => hm.bind _ fun y => Hom.takeC hm xs fun ys => h (y :: ys)
theorem Hom.pre (hm : Hom A B r) {m m' : Mem} {x : R} {t : S} (h : r x t) : r (prefixK A m m' x) (prefixK B m m' t) := by
  unfold prefixK
  split
  · exact h
  · exact hm.fail
theorem Hom.askK (hm : Hom A B r) {E : Env} {fn : FuncId} {args : List TE} {m : Mem} {k : Out → R} {k' : Out → S} (hk : ∀ o, r (k o) (k' o)) :
    r (askK A E fn args m k) (askK B E fn args m k') := by
  unfold Ab.askK
  split
  · exact hm.bind _ hk
  · exact hm.ask _ hk
theorem Hom.callI (hm : Hom A B r) {E : Env} {draw : Bool} {fn : FuncId} {args : List TE} {m : Mem} {k : TV → R} {k' : TV → S} (hk : ∀ v, r (k v) (k' v)) :
    r (callI A E draw fn args m k) (callI B E draw fn args m k') := by
  unfold Ab.callI
  repeat' first
    | exact hm.fail
    | exact hm.out _
    | exact hk _
    | refine hm.askK fun _ => ?_
    | refine hm.bind _ fun _ => ?_
    | refine hm.cond _ ?_ ?_
    | split
theorem Hom.callR (hm : Hom A B r) {E : Env} {draw : Bool} {fn : FuncId} {args : List TE} {m : Mem} {k : TV → R} {k' : TV → S} (hk : ∀ v, r (k v) (k' v)) :
    r (callR A E draw fn args m k) (callR B E draw fn args m k') := by
  unfold Ab.callR
  repeat' first
    | exact hm.fail
    | exact hm.out _
    | exact hk _
    | refine hm.pre ?_
    | refine hm.askK fun _ => ?_
    | refine hm.bind _ fun _ => ?_
    | refine hm.cond _ ?_ ?_
    | split
theorem Hom.callA (hm : Hom A B r) {E : Env} {draw : Bool} {fn : FuncId} {args : List TE} {m : Mem} {k : TV → Mem → R} {k' : TV → Mem → S} (hk : ∀ v m, r (k v m) (k' v m)) :
    r (callA A E draw fn args m k) (callA B E draw fn args m k') := by
  unfold Ab.callA
  repeat' first
    | exact hm.fail
    | exact hm.out _
    | exact hk _ _
    | refine hm.pre ?_
    | refine hm.askK fun _ => ?_
    | refine hm.cond _ ?_ ?_
    | split
theorem Hom.con (hm : Hom A B r) {l : List Con} {x : R} {t : S} (h : r x t) : r (conK A l x) (conK B l t) := by
  unfold conK
  split
  · exact h
  · exact hm.fail
theorem Hom.callW (hm : Hom A B r) {E : Env} {draw : Bool} {fn : FuncId} {args : List TE} {m : Mem} {k : TV → Mem → R} {k' : TV → Mem → S} (hk : ∀ v m, r (k v m) (k' v m)) :
    r (callW A E draw fn args m k) (callW B E draw fn args m k') := by
  unfold Ab.callW
  repeat' first
    | exact hm.fail
    | exact hm.out _
    | exact hk _ _
    | refine hm.askK fun _ => ?_
    | refine hm.cond _ ?_ ?_
    | split
theorem Hom.call (hm : Hom A B r) {E : Env} {draw : Bool} {fn : FuncId} {args : List TE} {m : Mem} {k : TV → Mem → Foot → R} {k' : TV → Mem → Foot → S} (hk : ∀ v m ft, r (k v m ft) (k' v m ft)) :
    r (callK A E draw fn args m k) (callK B E draw fn args m k') := by
  unfold callK
  split
  · exact hm.callI fun _ => hk _ _ _
  · exact hm.callR fun _ => hk _ _ _
  · exact hm.callA fun _ _ => hk _ _ _
  · exact hm.callW fun _ _ => hk _ _ _
theorem Hom.callD (hm : Hom A B r) {E : Env} {draw : Bool} {fn : TV} {args : List TE} {m : Mem} {k : TV → Mem → Foot → R} {k' : TV → Mem → Foot → S} (hk : ∀ v m ft, r (k v m ft) (k' v m ft)) :
    r (callD A E draw fn args m k) (callD B E draw fn args m k') := by
  unfold Ab.callD
  split
  · exact hm.call hk
  · exact hm.fail
theorem Hom.loads (hm : Hom A B r) {P : Program} {l : List TV} {m : Mem} : ∀ (rs : List ResultVar) {k : List TV → R} {k' : List TV → S}, (∀ vs, r (k vs) (k' vs)) →
    r (loadsK A P l m rs k) (loadsK B P l m rs k')
  | [], _, _, h => h _
  | .tmp t :: rs, _, _, h => Hom.loads hm rs fun vs => h (getT l t :: vs)
  | .cell _ _ :: rs, _, _, h => hm.bind _ fun _ => hm.bind _ fun v => Hom.loads hm rs fun vs => h (.e v :: vs)
theorem Hom.retA (hm : Hom A B r) {E : Env} {c : Cfg} : r (retA A E c) (retA B E c) := by
  unfold Ab.retA
  split
  · exact hm.loads _ fun _ => hm.takeE _ fun _ => hm.out _
  · exact hm.fail
theorem Hom.builtin (hm : Hom A B r) {E : Env} {c : Cfg} {b : Builtin} {args : List TV} {argTypes : Array TypeId} {ty : TypeId} {k : TV → Mem → Foot → R} {k' : TV → Mem → Foot → S} (hk : ∀ v m ft, r (k v m ft) (k' v m ft)) :
    r (builtinK A E c b args argTypes ty k) (builtinK B E c b args argTypes ty k') := by
  unfold builtinK
  repeat' first
    | exact hm.fail
    | refine hm.zero fun _ => ?_
    | refine hm.cond _ ?_ ?_
    | exact hk _ _ _
    | refine hm.bind _ fun _ => ?_
    | split
theorem Hom.op (hm : Hom A B r) {E : Env} {c : Cfg} {o : Oper} {k : TV → Mem → Foot → R} {k' : TV → Mem → Foot → S} (hk : ∀ v m ft, r (k v m ft) (k' v m ft)) :
    r (opK A E c o k) (opK B E c o k') := by
  unfold opK
  repeat' first
    | exact hm.fail
    | exact hk _ _ _
    | exact hm.out _
    | exact hm.builtin hk
    | refine hm.callD fun _ _ _ => ?_
    | refine hm.typed fun _ => ?_
    | refine hm.zero fun _ => ?_
    | refine hm.takeE _ fun _ => ?_
    | refine hm.takeC _ fun _ => ?_
    | refine hm.bind _ fun _ => ?_
    | refine hm.cond _ ?_ ?_
    | split
end

/-! ### An operation's outcome -/
inductive OpOut where
  | val (v : TV) (m : Mem) (f : Foot)
  | out (o : Out)
def resA (call : Cfg → Option Out) : Alg (Option OpOut) := ⟨none, fun o => some (.out o), fun c k => (call c).bind k, fun _ => none⟩
noncomputable def opR (E : Env) (call : Cfg → Option Out) (c : Cfg) (o : Oper) : Option OpOut := opK (resA call) E c o fun v m f => some (.val v m f)
def OpOut.fin (k : TV → Mem → Foot → Option Out) : OpOut → Option Out
  | .val v m f => k v m f
  | .out o => some o
theorem homR (call cont : Cfg → Option Out) (k : TV → Mem → Foot → Option Out) : Hom (optA call cont) (resA call) fun x y => x = y.bind (OpOut.fin k) where
  fail := rfl
  out _ := rfl
  ask c {p q} h := by
    show (call c).bind p = ((call c).bind q).bind _
    cases call c with
    | none => rfl
    | some o => exact h o
theorem opK_val (E : Env) (call cont : Cfg → Option Out) (c : Cfg) (o : Oper) (k : TV → Mem → Foot → Option Out) :
    opK (optA call cont) E c o k = (opR E call c o).bind (OpOut.fin k) := Hom.op (homR call cont k) fun _ _ _ => rfl
/-- What a function answers. -/
noncomputable def ansR (E : Env) (call : Cfg → Option Out) (g : FuncId) (args : List TE) (m : Mem) : Option Out := match E.ext g with
  | some f => f args m
  | none => call (entry E.P g args m)
theorem askK_ans (E : Env) (call : Cfg → Option Out) (g : FuncId) (args : List TE) (m : Mem) (k : Out → Option OpOut) : askK (resA call) E g args m k = (ansR E call g args m).bind k := by
  unfold askK ansR
  split
  · rename_i f hf
    try simp only [hf]
    cases f args m <;> rfl
  · rename_i hf
    try simp only [hf]
    rfl
theorem bindR {call : Cfg → Option Out} {α : Type} {x : Option α} {k : α → Option OpOut} {r : OpOut} (h : (resA call).bind x k = some r) : ∃ y, x = some y ∧ k y = some r := by
  cases x with
  | none => cases h
  | some y => exact ⟨y, rfl, h⟩
theorem condR {b : Bool} {x y : Option OpOut} {r : OpOut} (h : cond b x y = some r) : b = true ∧ x = some r ∨ b = false ∧ y = some r := by
  cases b
  · exact .inr ⟨rfl, h⟩
  · exact .inl ⟨rfl, h⟩

/-! ### Memory in a mixed state -/
def touched (f : Foot) (m m' : Mem) (id : Nat) : Prop := id + 1 ∈ f.wr ∨ f.wrAll.isSome = true ∧ id < m.length ∨ m.length ≤ id ∧ id < m'.length
/-- What an operation sees is as in the text's order. -/
structure Agree (f : Foot) (m m' M : Mem) : Prop where
  len : m'.length ≤ M.length
  le : m.length ≤ m'.length
  rd : ∀ (id : Nat) (o : AObj), id + 1 ∈ f.rd → m[id]? = some o → M[id]? = some o
  wr : ∀ (id : Nat) (o : AObj), id + 1 ∈ f.wr → m[id]? = some o → M[id]? = some o
  all : f.rdAll = true ∨ f.wrAll.isSome = true → (∀ (id : Nat) (o : AObj), m[id]? = some o → M[id]? = some o) ∧ ∀ (id : Nat) (o : AObj), m.length ≤ id → M[id]? = some o → o.live = false
  ks : ∀ (id : Nat) (o o' : AObj), m[id]? = some o → M[id]? = some o' → o'.live = true → o'.k = o.k
  new : ∀ id, m.length ≤ id → id < m'.length → ∃ o : AObj, M[id]? = some o ∧ o.live = false
structure Merge (f : Foot) (m m' M M' : Mem) : Prop where
  len : M'.length = M.length
  hit : ∀ (id : Nat) (o : AObj), touched f m m' id → m'[id]? = some o → M'[id]? = some o
  miss : ∀ id : Nat, ¬ touched f m m' id → M'[id]? = M[id]?
  dom : ∀ id : Nat, m'.length ≤ id → M'[id]? = M[id]?
theorem Merge.same {f : Foot} {m M : Mem} (h : Agree f m m M) : Merge f m m M M where
  len := rfl
  hit id o ht ho := by
    rcases ht with ht | ⟨ht, _⟩ | ht
    · exact h.wr id o ht ho
    · exact (h.all (.inr ht)).1 id o ho
    · omega
  miss _ _ := rfl
  dom _ _ := rfl
theorem Merge.new {f : Foot} {m M : Mem} {o : AObj} (h : Agree f m (m ++ [o]) M) : Merge f m (m ++ [o]) M (M.set m.length o) where
  len := by simp
  hit id x ht hx := by
    by_cases he : id = m.length
    · subst he
      simp at hx
      subst hx
      rw [List.getElem?_set_self]
      have := h.len
      simp at this
      omega
    · rw [List.getElem?_set_ne (fun e => he e.symm)]
      have hlt : id < m.length := by
        have := (List.getElem?_eq_some_iff.1 hx).1
        simp at this
        omega
      rw [List.getElem?_append_left hlt] at hx
      rcases ht with ht | ⟨ht, _⟩ | ht
      · exact h.wr id x ht hx
      · exact (h.all (.inr ht)).1 id x hx
      · omega
  miss id ht := by
    rw [List.getElem?_set_ne]
    rintro rfl
    exact ht (.inr (.inr (by simp)))
  dom id hid := by
    rw [List.getElem?_set_ne]
    simp at hid
    omega
theorem Merge.set {f : Foot} {m M : Mem} {i : Nat} {o : AObj} (h : Agree f m (m.set i o) M) (hi : i + 1 ∈ f.wr) (hlt : i < m.length) : Merge f m (m.set i o) M (M.set i o) where
  len := by simp
  hit id x ht hx := by
    by_cases he : i = id
    · subst he
      have hlt : i < m.length := by
        have := (List.getElem?_eq_some_iff.1 hx).1
        simpa using this
      rw [List.getElem?_set_self hlt] at hx
      cases hx
      have := h.len
      have := h.le
      rw [List.getElem?_set_self (by omega)]
    · rw [List.getElem?_set_ne he] at hx ⊢
      rcases ht with ht | ⟨ht, _⟩ | ht
      · exact h.wr id x ht hx
      · exact (h.all (.inr ht)).1 id x hx
      · simp at ht
        omega
  miss id ht := by
    rw [List.getElem?_set_ne]
    rintro rfl
    exact ht (.inl hi)
  dom id hid := by
    rw [List.getElem?_set_ne]
    simp at hid
    omega

/-! ### What an operation owes -/
section
variable (P : Program) (Q : Exit → Act → World → Prop)
/-- It yields what it says. -/
def Yields' (o : Oper) (a : Act) (f : Foot) (m m' : Mem) (v : TV) (G : Gh) (M : Mem) (w : World) : Prop :=
  ∀ next : Act → World → Prop, (∀ (G' : Gh) (M' : Mem) (w' : World) (u : Value), Merge f m m' M M' → Ev G M w G' M' w' → Rel G' M' w' → TVR G' M' w' v u → next (a.put o.dst u) w') → o.wp P a w next Q
/-- It ends the call by a panic. -/
def Ends' (o : Oper) (a : Act) (out : Out) (G : Gh) (m : Mem) (w : World) : Prop :=
  ∀ next : Act → World → Prop, (∀ (G' : Gh) (w' : World) (v : Value), out.1 = .pan v → Ev G m w G' out.2 w' → Rel G' out.2 w' → Q (.panic [{ v, recovered := false }]) a w') → o.wp P a w next Q
end
section
variable {P : Program} {Q : Exit → Act → World → Prop} {o : Oper} {a : Act} {f : Foot} {m M : Mem} {v : TV} {G : Gh} {w : World}
theorem Yields'.pure (hR : Rel G M w) (ha : Agree f m m M) {u : Value} (hv : TVR G M w v u) (hx : (execOp a.eval o).run P w = .ok (.value u) w) : Yields' P Q o a f m m v G M w := by
  intro next hn
  unfold Oper.wp
  rw [hx]
  exact hn G M w u (.same ha) (.refl _ _ _) hR hv
theorem Yields'.new {ob : AObj} {g : Nat} {w' : World} (hR : Rel G M w) (ha : Agree f m (m ++ [ob]) M) (hN : NewObj G M w w' ob g) {u : Value} (hx : (execOp a.eval o).run P w = .ok (.value u) w')
    (hv : ∀ G' , G'.at_[m.length]? = some (some (g, 0)) → Ev G M w G' (M.set m.length ob) w' → Rel G' (M.set m.length ob) w' → TVR G' (M.set m.length ob) w' v u) : Yields' P Q o a f m (m ++ [ob]) v G M w := by
  intro next hn
  unfold Oper.wp
  rw [hx]
  obtain ⟨o₀, h0, hl⟩ := ha.new m.length (Nat.le_refl _) (by simp)
  obtain ⟨e, r⟩ := hN.put hR h0 hl
  refine hn _ _ w' u (.new ha) e r (hv _ ?_ e r)
  simp only [Gh.set]
  rw [List.getElem?_set_self]
  rw [hR.len]
  exact (List.getElem?_eq_some_iff.1 h0).1
end
end Go.Ab

/- What operations do to memory in a mixed state: appends. -/
namespace Go.Ab
open Go

theorem splice_cells (cs : Array Value) (o : Nat) (vs : List Value) (h : o + vs.length ≤ cs.size) :
    ((cs.toList.take o ++ vs ++ cs.toList.drop (o + vs.length)).toArray).size = cs.size ∧
    ∀ k, ((cs.toList.take o ++ vs ++ cs.toList.drop (o + vs.length)).toArray)[k]? = if o ≤ k ∧ k < o + vs.length then vs[k - o]? else cs[k]? := by
  refine ⟨by simp; omega, fun k => ?_⟩
  simp only [List.append_assoc, List.getElem?_toArray, List.getElem?_append, List.length_take, Array.length_toList, List.getElem?_take, List.getElem?_drop, Array.getElem?_toList]
  rw [Nat.min_eq_left (by omega)]
  by_cases c1 : k < o
  · rw [if_pos c1, if_pos c1, if_neg (by omega)]
  · rw [if_neg c1]
    by_cases c2 : k - o < vs.length
    · rw [if_pos c2, if_pos (by omega)]
    · rw [if_neg c2, if_neg (by omega)]
      congr 1
      omega
theorem one_of {v : Value} (h : oneCell v = true) : v.oneCell' = true := by cases v <;> first | rfl | cases h

section
variable {G : Gh} {m M : Mem} {w : World}
/-- What a value names is as it is there. -/
def Up (m M : Mem) (a : TV) : Prop := ∀ (id : Nat) (o : AObj), idOf a = id + 1 → m[id]? = some o → M[id]? = some o
theorem at_up {id ver : Nat} {o : AObj} (h : Mem.at? m id ver = some o) (hu : ∀ o : AObj, m[id]? = some o → M[id]? = some o) : Mem.at? M id ver = some o := by
  obtain ⟨h1, h2, h3⟩ := mem_at h
  unfold Mem.at?
  rw [hu o h1]
  simp [h2, h3]
theorem aload_up {n : Nat} {agg : Bool} {a : TV} {te : TE} (h : aload n agg a m = some te) (hu : Up m M a) : aload n agg a M = some te := by
  unfold aload at h ⊢
  split at h
  · rename_i id ver idx off
    split at h
    · rename_i o ho
      rw [at_up ho fun o => hu id o rfl]
      exact h
    · cases h
  · exact h
  · cases h
theorem elems_up {a : TV} {es : List (List CV)} (h : elems a m = some es) (hu : Up m M a) : elems a M = some es := by
  unfold elems at h ⊢
  split at h
  · exact h
  · exact h
  · rename_i id ver off len
    split at h
    · rename_i o ho
      rw [at_up ho fun o => hu id o rfl]
      exact h
    · cases h
  · rename_i id ver off len
    split at h
    · rename_i o ho
      rw [at_up ho fun o => hu id o rfl]
      exact h
    · cases h
  · exact h
  · cases h
theorem astore_up {n : Nat} {a x : TV} {m' : Mem} (h : astore n a x m = some m') (hu : Up m M a) : ∃ id o', idOf a = id + 1 ∧ m' = m.set id o' ∧ astore n a x M = some (M.set id o') := by
  unfold astore at h ⊢
  split at h
  · rename_i id ver idx off te
    split at h
    · rename_i o ho
      have := at_up ho fun o => hu id o rfl
      split at h
      · rename_i e he
        cases hc : te.cells.length == n && decide (off + n ≤ e.length) with
        | false => rw [hc] at h; cases h
        | true =>
          rw [hc] at h
          cases h
          refine ⟨id, _, rfl, rfl, ?_⟩
          rw [this]
          simp only [he, hc, cond_true]
      · cases h
    · cases h
  · cases h

/-- The cells of some elements, one after another. -/
def Flat (G : Gh) (m : Mem) (w : World) (k : Nat) (es : List (List CV)) (vs : List Value) : Prop :=
  vs.length = es.length * k ∧ ∀ (i : Nat) (e : List CV), es[i]? = some e → e.length = k ∧ ∀ (j : Nat) (x : CV), e[j]? = some x → ∃ u, vs[i * k + j]? = some u ∧ CR G m w x u
theorem Flat.one {k : Nat} {es : List (List CV)} {vs : List Value} (h : Flat G m w k es vs) : ∀ u ∈ vs, u.oneCell' = true := by
  intro u hu
  obtain ⟨q, hq, rfl⟩ := List.getElem_of_mem hu
  rw [h.1] at hq
  have hk : 0 < k := by
    rcases Nat.eq_zero_or_pos k with h0 | h0
    · subst h0; omega
    · exact h0
  have hi : q / k < es.length := Nat.div_lt_of_lt_mul (by rw [Nat.mul_comm]; exact hq)
  obtain ⟨hl, hx⟩ := h.2 (q / k) _ (List.getElem?_eq_getElem hi)
  have hj : q % k < es[q / k].length := by rw [hl]; exact Nat.mod_lt _ hk
  obtain ⟨u, hu, hr⟩ := hx (q % k) _ (List.getElem?_eq_getElem hj)
  have e : q / k * k + q % k = q := by rw [Nat.mul_comm]; exact Nat.div_add_mod q k
  rw [e] at hu
  rw [List.getElem?_eq_getElem (by rw [h.1]; exact hq)] at hu
  cases hu
  exact one_of (cr_one hr)
theorem Flat.append {k : Nat} {es fs : List (List CV)} {vs us : List Value} (h : Flat G m w k es vs) (h' : Flat G m w k fs us) : Flat G m w k (es ++ fs) (vs ++ us) := by
  refine ⟨by simp [h.1, h'.1, Nat.add_mul], fun i e he => ?_⟩
  rw [List.getElem?_append] at he
  split at he
  · rename_i hi
    obtain ⟨h1, h2⟩ := h.2 i e he
    refine ⟨h1, fun j x hj => ?_⟩
    obtain ⟨u, hu, hr⟩ := h2 j x hj
    exact ⟨u, by rw [List.getElem?_append_left (List.getElem?_eq_some_iff.1 hu).1]; exact hu, hr⟩
  · rename_i hi
    obtain ⟨h1, h2⟩ := h'.2 _ e he
    refine ⟨h1, fun j x hj => ?_⟩
    obtain ⟨u, hu, hr⟩ := h2 j x hj
    refine ⟨u, ?_, hr⟩
    have e : i * k = es.length * k + (i - es.length) * k := by rw [← Nat.add_mul]; congr 1; omega
    rw [List.getElem?_append_right (by rw [h.1, e]; omega), h.1, e]
    rw [← hu]
    congr 1
    omega
theorem flat_choose {g o k : Nat} {es : List (List CV)} (h : Row G m w g o k es) : ∃ vs : List Value, Flat G m w k es vs ∧ ∀ (q : Nat) v, vs[q]? = some v → w.cell? (cellAt g (o + q)) = some v := by
  have key : ∀ q, ∃ v, q < es.length * k → w.cell? (cellAt g (o + q)) = some v ∧ ∀ e x, es[q / k]? = some e → e[q % k]? = some x → CR G m w x v := by
    intro q
    by_cases hq : q < es.length * k
    · have hk : 0 < k := by
        rcases Nat.eq_zero_or_pos k with h0 | h0
        · subst h0; omega
        · exact h0
      have hi : q / k < es.length := Nat.div_lt_of_lt_mul (by rw [Nat.mul_comm]; exact hq)
      obtain ⟨hl, hx⟩ := h (q / k) _ (List.getElem?_eq_getElem hi)
      have hj : q % k < es[q / k].length := by rw [hl]; exact Nat.mod_lt _ hk
      obtain ⟨u, hu, hr⟩ := hx (q % k) _ (List.getElem?_eq_getElem hj)
      have e : q / k * k + q % k = q := by rw [Nat.mul_comm]; exact Nat.div_add_mod q k
      rw [Nat.add_assoc, e] at hu
      refine ⟨u, fun _ => ⟨hu, fun e' x he' hx' => ?_⟩⟩
      rw [List.getElem?_eq_getElem hi] at he'
      cases he'
      rw [List.getElem?_eq_getElem hj] at hx'
      cases hx'
      exact hr
    · exact ⟨undef, fun h => absurd h hq⟩
  refine ⟨(List.range (es.length * k)).map fun q => (key q).choose, ⟨by simp, fun i e he => ?_⟩, fun q v hv => ?_⟩
  · refine ⟨(h i e he).1, fun j x hj => ?_⟩
    have hi : i < es.length := (List.getElem?_eq_some_iff.1 he).1
    have hjk : j < k := by rw [← (h i e he).1]; exact (List.getElem?_eq_some_iff.1 hj).1
    have hq : i * k + j < es.length * k := by
      have : (i + 1) * k ≤ es.length * k := Nat.mul_le_mul_right _ hi
      rw [Nat.add_mul] at this
      omega
    have e1 : (i * k + j) / k = i := by
      rw [Nat.mul_comm, Nat.mul_add_div (by omega), Nat.div_eq_of_lt hjk, Nat.add_zero]
    have e2 : (i * k + j) % k = j := by
      rw [Nat.mul_comm, Nat.mul_add_mod, Nat.mod_eq_of_lt hjk]
    refine ⟨_, by simp [hq], ((key _).choose_spec hq).2 e x (by rw [e1]; exact he) (by rw [e2]; exact hj)⟩
  · simp only [List.getElem?_map, Option.map_eq_some_iff] at hv
    obtain ⟨q', hq', rfl⟩ := hv
    have hlt : q < es.length * k := by
      have := (List.getElem?_eq_some_iff.1 hq').1
      simpa using this
    have : q' = q := by
      rw [List.getElem?_range hlt] at hq'
      cases hq'
      rfl
    subst this
    exact ((key q').choose_spec hlt).1
theorem allLen_spec {k : Nat} : ∀ {es : List (List CV)}, allLen k es = true → ∀ e ∈ es, e.length = k
  | [], _, e, he => by cases he
  | x :: es, h, e, he => by
    simp only [allLen, Bool.and_eq_true, beq_iff_eq] at h
    rcases List.mem_cons.1 he with rfl | he
    · exact h.1
    · exact allLen_spec h.2 e he

theorem allLen_of {k : Nat} : ∀ {es : List (List CV)}, (∀ e ∈ es, e.length = k) → allLen k es = true
  | [], _ => rfl
  | x :: es, h => by
    simp only [allLen, Bool.and_eq_true, beq_iff_eq]
    exact ⟨h x (by simp), allLen_of fun e he => h e (by simp [he])⟩

variable {P : Program}
/-- What an append takes from a value. -/
theorem holds_src {es : List (List CV)} {v : Value} (h : Holds G m w es v) {k : Nat} (hk : allLen k es = true) {tx : TypeId} {d : TypeDesc} (hd : P.underlying tx = some d) (hr : isRow d = true) :
    ∃ vs, Src P k tx v es.length vs w ∧ Flat G m w k es vs := by
  have hkind : (∃ e', P.underlying tx = some (.slice e')) ∨ P.underlying tx = some .string := by
    rw [hd]
    cases d <;> first | exact .inr rfl | exact .inl ⟨_, rfl⟩ | cases hr
  cases h with
  | str s he =>
    subst he
    have hlen : (s.data.toList.map fun b => [CV.p (.c (.int .u8 (b.toNat : Int)))]).length = s.size := by
      rw [List.length_map]
      simp
    rcases Nat.eq_zero_or_pos s.size with h0 | h0
    · have hd0 : s.data = #[] := by
        apply Array.eq_empty_of_size_eq_zero
        exact h0
      refine ⟨[], ⟨hkind, fun w' => ?_, ?_, ?_, ?_, fun u hu => by cases hu⟩, ?_, fun i e he => ?_⟩
      · rw [hlen]; simp [Builtin.lenOf]
      · rw [hlen, h0]; simp [Builtin.firstCells]
      · rw [hlen, h0]; simp [Builtin.firstCells]
      · simp [hlen, h0]
      · simp [hlen, h0]
      · have := (List.getElem?_eq_some_iff.1 he).1
        rw [hlen] at this
        omega
    · have hk1 : k = 1 := by
        have hne : 0 < (s.data.toList.map fun b => [CV.p (.c (.int .u8 (b.toNat : Int)))]).length := by omega
        have := allLen_spec hk _ (List.getElem_mem hne)
        simpa using this.symm
      subst hk1
      have hs := firstCells_string (P := P) s
      refine ⟨byteCells s, ⟨hkind, fun w' => by rw [hlen]; rfl, by rw [hlen]; exact hs w, by rw [hlen]; exact hs w.drew, by rw [hlen, byteCells_length, Nat.mul_one], fun u hu => ?_⟩, by rw [hlen, byteCells_length, Nat.mul_one], fun i e he => ?_⟩
      · obtain ⟨_, _, rfl⟩ := List.mem_map.1 hu
        rfl
      · simp only [List.getElem?_map, Option.map_eq_some_iff] at he
        obtain ⟨b, hb, rfl⟩ := he
        refine ⟨rfl, fun j x hj => ?_⟩
        cases j with
        | zero =>
          cases hj
          refine ⟨.int .u8 (b.toNat : Int), ?_, .p (.c _ rfl)⟩
          simp [byteCells, hb]
        | succ j => simp at hj
  | nil A cap he =>
    subst he
    refine ⟨[], ⟨hkind, fun _ => rfl, ?_, ?_, by simp, fun _ h => by cases h⟩, by simp, fun i e he => by simp at he⟩
    · cases A with
      | none => exact run_firstCells_none w k 0 0 cap
      | some b => exact run_firstCells_some w k 0 b 0 cap [] (by simp) (fun j v hj => by simp at hj)
    · cases A with
      | none => exact run_firstCells_none w.drew k 0 0 cap
      | some b => exact run_firstCells_some w.drew k 0 b 0 cap [] (by simp) (fun j v hj => by simp at hj)
  | row g o k' cap hc hrow =>
    cases es with
    | nil =>
      refine ⟨[], ⟨hkind, fun _ => rfl, ?_, ?_, by simp, fun _ h => by cases h⟩, by simp, fun i e he => by simp at he⟩
      · exact run_firstCells_some w k 0 _ 0 cap [] (by simp) (fun j v hj => by simp at hj)
      · exact run_firstCells_some w.drew k 0 _ 0 cap [] (by simp) (fun j v hj => by simp at hj)
    | cons e0 es0 =>
      have : k' = k := by
        have h1 := (hrow 0 e0 rfl).1
        have h2 := allLen_spec hk e0 (by simp)
        omega
      subst this
      obtain ⟨vs, hf, hc'⟩ := flat_choose hrow
      exact ⟨vs, ⟨hkind, fun _ => rfl, run_firstCells_some w k' _ _ _ cap vs hf.1 (fun j u hj => by rw [add_cellAt]; exact hc' j u hj),
        run_firstCells_some w.drew k' _ _ _ cap vs hf.1 (fun j u hj => by rw [add_cellAt]; simpa using hc' j u hj), hf.1, hf.one⟩, hf⟩

/-- An append without room: a new block. -/
theorem append_grow {t tx ty e : TypeId} {i : TypeInfo} {z : TE} (ht : P.underlying t = some (.slice e)) (hi : P.info? e = some i) (hz : zeroE P e = some z) (hzl : z.cells.length = i.size) {base : Option Addr} {sLen sCap : Nat} {es new : List (List CV)}
    {olds news : List Value} {x : Value} (hs : Src P i.size t (.slice base sLen sCap) sLen olds w) (hx : Src P i.size tx x new.length news w) (hfo : Flat G M w i.size es olds) (hfn : Flat G M w i.size new news) (hle : es.length = sLen)
    (hg : sCap < sLen + new.length) (hb : (sLen + new.length) * max 1 i.bytes ≤ roomB) (ver : Nat) :
    ∃ w' cap, (Builtin.append_ #[t, tx] ty #[.slice base sLen sCap, x]).run P w = .ok (.slice (some (cellAt w.heap.size 0)) (sLen + new.length) cap) w' ∧ sLen + new.length ≤ cap ∧
      NewObj G M w w' ⟨ver, i.size, e, true, es ++ new⟩ w.heap.size ∧ ∃ n, w'.shape? w.heap.size = some (e, n) ∧ cap * i.size ≤ n := by
  obtain ⟨i', v, hi', hzv, hzr⟩ := zeroE_r hz
  rw [hi] at hi'
  cases hi'
  have hzs : v.cells.size = i.size := by rw [← hzl]; exact (te_cells (hzr G M w)).1
  have hmul : (sLen + new.length) * 1 ≤ roomB := Nat.le_trans (Nat.mul_le_mul_left _ (Nat.le_max_left _ _)) hb
  have hmul' : (sLen + new.length) * i.bytes ≤ roomB := Nat.le_trans (Nat.mul_le_mul_left _ (Nat.le_max_right _ _)) hb
  have hrun := run_append_grow_src (P := P) w t tx ty e i v ht hi hzv base sLen sCap olds hs.cellsD x new.length news hx hg (by simp only [roomB] at hmul; omega) (growslice_fits hg hmul')
  have hcap := grownCap_ge w (sLen + new.length) sCap e
  generalize grownCap w (sLen + new.length) sCap e = cap at hrun hcap
  have hsz : ((olds ++ news).toArray ++ Builtin.zeroCells v.cells (cap - (sLen + new.length))).size = cap * i.size := by
    have e1 : olds.length = sLen * i.size := by rw [hfo.1, hle]
    have e2 : news.length = new.length * i.size := hfn.1
    have e3 : cap = sLen + new.length + (cap - (sLen + new.length)) := by omega
    simp only [Array.size_append, List.size_toArray, List.length_append, size_zeroCells, hzs, e1, e2]
    conv => rhs; rw [e3, Nat.add_mul, Nat.add_mul]
  refine ⟨_, cap, hrun, hcap, ⟨rfl, ?_, Nat.le_refl _, by simp, _, heap_alloc_new w.drew _, ?_, fun idx e' he' => ?_⟩, cap * i.size, ?_, Nat.le_refl _⟩
  · have h := World.grownBy_alloc w.drew (.cells ((olds ++ news).toArray ++ Builtin.zeroCells v.cells (cap - (sLen + new.length))) e) none
    exact ⟨h.os, h.tape, h.output, h.size, h.block⟩
  · simp only [List.length_append, hsz, hle]
    exact Nat.mul_le_mul_right _ hcap
  · obtain ⟨h1, h2⟩ := (hfo.append hfn).2 idx e' he'
    refine ⟨h1, fun j y hj => ?_⟩
    obtain ⟨u, hu, hr⟩ := h2 j y hj
    refine ⟨u, ?_, hr⟩
    dsimp only
    rw [Array.getElem?_append_left (by simpa using (List.getElem?_eq_some_iff.1 hu).1)]
    simpa using hu
  · have : (w.drew.alloc (.cells ((olds ++ news).toArray ++ Builtin.zeroCells v.cells (cap - (sLen + new.length))) e)).heap[w.heap.size]? = _ := heap_alloc_new w.drew _
    simp only [World.shape?, this, hsz]
theorem grown_some {w w' : World} (h : w.grownBy w' none) (r : Option Nat) : w.grownBy w' r := ⟨h.os, h.tape, h.output, h.size, fun k hk _ => h.block k hk (by simp)⟩
theorem agree_up {f : Foot} {m m' : Mem} (h : Agree f m m' M) {x : TV} (hx : idOf x ∈ f.rd ∨ idOf x ∈ f.wr) : Up m M x := by
  intro id o he ho
  rw [he] at hx
  rcases hx with hx | hx
  · exact h.rd id o hx ho
  · exact h.wr id o hx ho
theorem run_aappend (hR : Rel G M w) {t tx ty e : TypeId} {z : TE} (ht : P.underlying t = some (.slice e)) (hz : zeroE P e = some z) (hzl : z.cells.length = P.cellsOf e) {d : TypeDesc} (hd : P.underlying tx = some d) (hd' : isRow d = true)
    {s x : TV} {r : CV × Mem} (h : aappend e (P.cellsOf e) (max 1 (P.bytesOf e)) s x m = some r) {vs vx : Value} (hs : TVR G M w s vs) (hx : TVR G M w x vx) (ha : Agree ⟨[idOf x], [idOf s], false, none, true⟩ m r.2 M) :
    ∃ u w' G' M', (Builtin.append_ #[t, tx] ty #[vs, vx]).run P w = .ok u w' ∧ Merge ⟨[idOf x], [idOf s], false, none, true⟩ m r.2 M M' ∧ Ev G M w G' M' w' ∧ Rel G' M' w' ∧ TVR G' M' w' (.e (.c r.1)) u := by
  obtain ⟨i, _, hi, _, _⟩ := zeroE_r hz
  have hsz : P.cellsOf e = i.size := by simp [Program.cellsOf, hi]
  have hby : P.bytesOf e = i.bytes := by simp [Program.bytesOf, hi]
  rw [hsz] at hzl
  have hxu : Up m M x := agree_up ha (.inl (by simp))
  have hsu : Up m M s := agree_up ha (.inr (by simp))
  unfold aappend at h
  split at h
  · cases h
  rename_i new hnew
  have hnewM := elems_up hnew hxu
  cases hk : allLen (P.cellsOf e) new with
  | false => rw [hk] at h; cases h
  | true =>
  rw [hk, cond_true] at h
  rw [hsz] at hk
  obtain ⟨news, hsx, hfn⟩ := holds_src (elems_holds hR hnewM hx) hk hd hd'
  have nothing : new.isEmpty = true → ∀ (base : Option Addr) (sLen sCap : Nat), sLen ≤ sCap → (Builtin.append_ #[t, tx] ty #[.slice base sLen sCap, vx]).run P w = .ok (.slice base sLen sCap) w := by
    intro hem base sLen sCap hle
    have h0 : new = [] := by simpa using hem
    subst h0
    have h1 : news = [] := by have := hfn.1; simpa using this
    subst h1
    exact run_append_nothing w t tx ty e i ht hi base sLen sCap hle vx (by simpa using hsx)
  split at h
  · -- a slice that is never written again
    rename_i es
    cases te_c (tv_e hs) with
    | tsl hp =>
    rename_i A n
    obtain ⟨hh, A', cap', heq⟩ := pr_holds (m := M) hp
    cases heq
    cases hem : new.isEmpty with
    | true =>
      rw [hem] at h
      cases h
      exact ⟨_, w, G, M, nothing hem _ _ _ (Nat.le_refl _), .same ha, .refl _ _ _, hR, hs⟩
    | false =>
      rw [hem, cond_false] at h
      cases hc : decide ((es.length + new.length) * max 1 (P.bytesOf e) ≤ roomB) && allLen (P.cellsOf e) (es.map (·.map .p)) with
      | false => rw [hc] at h; cases h
      | true =>
        rw [hc] at h
        cases h
        simp only [Bool.and_eq_true, decide_eq_true_eq, hsz, hby] at hc
        obtain ⟨hb, hal⟩ := hc
        obtain ⟨olds, hso, hfo⟩ := holds_src hh hal ht (by rfl)
        simp only [List.length_map] at hso
        have hpos : 0 < new.length := by
          rcases Nat.eq_zero_or_pos new.length with h0 | h0
          · have : new = [] := List.eq_nil_of_length_eq_zero h0
            subst this
            cases hem
          · exact h0
        obtain ⟨w', cap, hrun, hcap, hN, n', hsh, hn'⟩ := append_grow (ty := ty) ht hi hz hzl hso hsx hfo hfn (by simp) (by omega) hb 0
        simp only [fresh, hsz] at ha ⊢
        obtain ⟨o₀, h0, hl0⟩ := ha.new m.length (Nat.le_refl _) (by simp)
        obtain ⟨ev, rl⟩ := hN.put hR h0 hl0
        have hlt : m.length < M.length := (List.getElem?_eq_some_iff.1 h0).1
        refine ⟨_, w', _, _, hrun, .new ha, ev, rl, .e (.c ?_)⟩
        have hel : (es.map (·.map CV.p) ++ new).length = es.length + new.length := by simp
        rw [hel]
        refine .oref _ (List.getElem?_set_self hlt) rfl (Nat.le_refl _) hcap fun _ => ⟨w.heap.size, 0, ?_, fun _ => by simp, e, n', hsh, by simpa using hn'⟩
        simp only [Gh.set]
        rw [List.getElem?_set_self (by rw [hR.len]; exact hlt)]
  · -- one without spare room
    rename_i id ver off len
    cases te_c (tv_e hs) with
    | toref o ho hl hv hg =>
    rename_i A
    cases hem : new.isEmpty with
    | true =>
      rw [hem] at h
      cases h
      exact ⟨_, w, G, M, nothing hem _ _ _ (Nat.le_refl _), .same ha, .refl _ _ _, hR, hs⟩
    | false =>
      rw [hem, cond_false] at h
      split at h
      · rename_i o' hm0
        have hm1 := at_up hm0 fun o => hsu id o rfl
        obtain ⟨ho', _, hver⟩ := mem_at hm1
        rw [ho] at ho'
        cases ho'
        cases hc : decide (off + len ≤ o.es.length) && decide ((len + new.length) * max 1 (P.bytesOf e) ≤ roomB) && o.k == P.cellsOf e with
        | false => rw [hc] at h; cases h
        | true =>
          rw [hc] at h
          cases h
          simp only [Bool.and_eq_true, decide_eq_true_eq, beq_iff_eq, hsz, hby] at hc
          obtain ⟨⟨hol, hb⟩, hok⟩ := hc
          have hels : elems (.e (.c (.toref id ver off len))) M = some ((o.es.drop off).take len) := by simp [elems, hm1, hol]
          have hh := elems_holds hR hels hs
          obtain ⟨g, b, hat, _, _, hrow⟩ := obj_at hR ho hl
          have hal : allLen i.size ((o.es.drop off).take len) = true := by
            rw [← hok]
            exact allLen_of fun e' he' => by
              obtain ⟨q, hq⟩ := List.getElem?_of_mem he'
              exact (Row.sub hrow off len q e' hq).1
          obtain ⟨olds, hso, hfo⟩ := holds_src hh hal ht (by rfl)
          have hlen : ((o.es.drop off).take len).length = len := by simp; omega
          rw [hlen] at hso
          have hpos : 0 < new.length := by
            rcases Nat.eq_zero_or_pos new.length with h0 | h0
            · have : new = [] := List.eq_nil_of_length_eq_zero h0
              subst this
              cases hem
            · exact h0
          obtain ⟨w', cap, hrun, hcap, hN, n', hsh, hn'⟩ := append_grow (ty := ty) ht hi hz hzl hso hsx hfo hfn hlen (by omega) hb 0
          simp only [fresh, hsz] at ha ⊢
          obtain ⟨o₀, h0, hl0⟩ := ha.new m.length (Nat.le_refl _) (by simp)
          obtain ⟨ev, rl⟩ := hN.put hR h0 hl0
          have hlt : m.length < M.length := (List.getElem?_eq_some_iff.1 h0).1
          refine ⟨_, w', _, _, hrun, .new ha, ev, rl, .e (.c ?_)⟩
          rw [List.length_append, hlen]
          refine .oref _ (List.getElem?_set_self hlt) rfl (Nat.le_refl _) hcap fun _ => ⟨w.heap.size, 0, ?_, fun _ => by simp, e, n', hsh, by simpa using hn'⟩
          simp only [Gh.set]
          rw [List.getElem?_set_self (by rw [hR.len]; exact hlt)]
      · cases h
  · -- one's own
    rename_i id ver off len
    cases te_c (tv_e hs) with
    | oref o ho hl hv hcap hg =>
    rename_i cap A
    cases hem : new.isEmpty with
    | true =>
      rw [hem] at h
      cases h
      exact ⟨_, w, G, M, nothing hem _ _ _ hcap, .same ha, .refl _ _ _, hR, hs⟩
    | false =>
      rw [hem, cond_false] at h
      split at h
      · rename_i o' hm0
        have hm1 := at_up hm0 fun o => hsu id o rfl
        obtain ⟨ho', _, hver⟩ := mem_at hm1
        rw [ho] at ho'
        cases ho'
        cases hc : decide (off + len ≤ o.es.length) && decide ((len + new.length) * max 1 (P.bytesOf e) ≤ roomB) && o.ety == e && o.k == P.cellsOf e with
        | false => rw [hc] at h; cases h
        | true =>
          rw [hc] at h
          cases h
          simp only [Bool.and_eq_true, decide_eq_true_eq, beq_iff_eq, hsz, hby] at hc
          obtain ⟨⟨⟨hol, hb⟩, hety⟩, hok⟩ := hc
          have hels : elems (.e (.c (.oref id ver off len))) M = some ((o.es.drop off).take len) := by simp [elems, hm1, hol]
          have hh := elems_holds hR hels hs
          obtain ⟨g, b, hat, hgl, ⟨n, hshp, hbn⟩, hrow⟩ := obj_at hR ho hl
          have hal : allLen i.size ((o.es.drop off).take len) = true := by
            rw [← hok]
            exact allLen_of fun e' he' => by
              obtain ⟨q, hq⟩ := List.getElem?_of_mem he'
              exact (Row.sub hrow off len q e' hq).1
          have hlen : ((o.es.drop off).take len).length = len := by simp; omega
          have hpos : 0 < new.length := by
            rcases Nat.eq_zero_or_pos new.length with h0 | h0
            · have : new = [] := List.eq_nil_of_length_eq_zero h0
              subst this
              cases hem
            · exact h0
          have hid : id < M.length := (List.getElem?_eq_some_iff.1 ho).1
          have hidm : id < m.length := (List.getElem?_eq_some_iff.1 (mem_at hm0).1).1
          obtain ⟨olds, hso, hfo⟩ := holds_src hh hal ht (by rfl)
          rw [hlen] at hso
          by_cases hroom : len + new.length ≤ cap
          · -- there is room
            obtain ⟨g', b', hat', hA, ty', n', hsh', hn'⟩ := hg hver.symm
            rw [hat] at hat'
            cases hat'
            obtain rfl := hA (by omega)
            obtain ⟨g', b', hat', ⟨cs, hcs, hsz', hes⟩⟩ := hR.obj id o ho hl
            rw [hat] at hat'
            cases hat'
            have hshc : w.shape? g = some (o.ety, cs.size) := by simp [World.shape?, hcs]
            rw [hshc] at hsh'
            cases hsh'
            rw [Nat.add_mul, hok] at hn'
            have hcapk : (len + new.length) * i.size ≤ cap * i.size := Nat.mul_le_mul_right _ hroom
            rw [Nat.add_mul] at hcapk
            have hfit : b + off * o.k + len * i.size + news.length ≤ cs.size := by rw [hfn.1, hok]; omega
            have hst := run_storeCells_at (P := P) g (b + off * o.k + len * i.size) o.ety news 0 cs w hcs (by simpa using hfit) hsx.one
            simp only [Nat.add_zero] at hst
            obtain ⟨hcz, hcl⟩ := splice_cells cs (b + off * o.k + len * i.size) news hfit
            generalize (cs.toList.take (b + off * o.k + len * i.size) ++ news ++ cs.toList.drop (b + off * o.k + len * i.size + news.length)).toArray = cs' at hst hcz hcl
            have hrun : (Builtin.append_ #[t, tx] ty #[.slice (some (cellAt g (b + off * o.k))) len cap, vx]).run P w = .ok (.slice (some (cellAt g (b + off * o.k))) (len + new.length) cap) (w.setRow g cs') := by
              have hadd : (cellAt g (b + off * o.k)).add (len * i.size) = cellAt g (b + off * o.k + len * i.size) := add_cellAt _ _ _
              rcases hsx.kind with ⟨e', hk'⟩ | hk' <;> simp [Builtin.append_, run_underlying ht, run_underlying hk', sizeOf, typeInfo, hi, hsx.len, hroom, hsx.cells, hadd, hst]
            have hheap : (w.setRow g cs').heap[g]? = some (.cells cs' o.ety (0, 0)) := setRow_heap w g cs cs' o.ety (0, 0) hcs
            have hgr : w.grownBy (w.setRow g cs') (some g) := ⟨rfl, rfl, rfl, by simp [World.setRow], fun k hk hne => by
              simp only [World.setRow]
              rw [Array.getElem?_modify]
              rw [if_neg (by rintro rfl; exact hne rfl)]⟩
            have hshg : (w.setRow g cs').shape? g = some (o.ety, cs.size) := by simp [World.shape?, hheap, hcz]
            obtain ⟨ev, rl⟩ := hR.turn ho hl hat hgr (hshg.trans hshc.symm) (o' := { o with ver := ver + 1, es := (o.es.drop off).take len ++ new }) (g' := g) (b' := b + off * o.k) hl (by dsimp only; omega) (fun hh => by dsimp only at hh; omega) (.inl rfl) hheap
              (by simp only [List.length_append, hlen, hcz, hok, Nat.add_mul]; omega) (fun idx e' he' => by
                dsimp only at he' ⊢
                rw [List.getElem?_append, hlen] at he'
                split at he'
                · rename_i hlt
                  obtain ⟨h1, h2⟩ := hes (off + idx) e' (by
                    rw [List.getElem?_take, if_pos hlt, List.getElem?_drop] at he'
                    exact he')
                  refine ⟨h1, fun j y hj => ?_⟩
                  obtain ⟨u, hu, hr⟩ := h2 j y hj
                  refine ⟨u, ?_, hr⟩
                  have hjk : j < o.k := by rw [← h1]; exact (List.getElem?_eq_some_iff.1 hj).1
                  rw [hcl, if_neg]
                  · rw [← hu]
                    congr 1
                    rw [Nat.add_mul]
                    omega
                  · rintro ⟨h3, _⟩
                    have : (idx + 1) * o.k ≤ len * o.k := Nat.mul_le_mul_right _ hlt
                    rw [Nat.add_mul] at this
                    rw [hok] at this h3 hjk
                    omega
                · rename_i hlt
                  obtain ⟨h1, h2⟩ := hfn.2 _ e' he'
                  refine ⟨by rw [hok]; exact h1, fun j y hj => ?_⟩
                  obtain ⟨u, hu, hr⟩ := h2 j y hj
                  refine ⟨u, ?_, hr⟩
                  have hjk : j < i.size := by rw [← h1]; exact (List.getElem?_eq_some_iff.1 hj).1
                  have e1 : idx * i.size = len * i.size + (idx - len) * i.size := by rw [← Nat.add_mul]; congr 1; omega
                  have hq := (List.getElem?_eq_some_iff.1 hu).1
                  rw [hcl, if_pos]
                  · rw [← hu]
                    congr 1
                    rw [hok, e1]
                    omega
                  · rw [hok, e1]
                    omega)
            refine ⟨_, _, _, _, hrun, .set ha (by simp [idOf]) hidm, ev, rl, .e (.c ?_)⟩
            refine .oref _ (List.getElem?_set_self hid) hl (Nat.le_refl _) hroom fun _ => ⟨g, b + off * o.k, ?_, fun _ => by simp, o.ety, cs.size, hshg, ?_⟩
            · simp only [Gh.set]
              rw [List.getElem?_set_self (by rw [hR.len]; exact hid)]
            · dsimp only
              rw [Nat.zero_add, hok]
              rw [hok] at *
              omega
          · -- there is none
            obtain ⟨w', cap', hrun, hcap', hN, n', hsh, hn'⟩ := append_grow (ty := ty) ht hi hz hzl hso hsx hfo hfn hlen (by omega) hb (ver + 1)
            obtain ⟨cs', h1, h2, h3⟩ := hN.row
            obtain ⟨ev, rl⟩ := hR.turn ho hl hat (grown_some hN.grown _) (shape_of (hN.grown.block g hgl (by simp))) (o' := { o with ver := ver + 1, es := (o.es.drop off).take len ++ new }) (g' := w.heap.size) (b' := 0) hl (by dsimp only; omega) (fun hh => by dsimp only at hh; omega)
              (.inr ⟨Nat.le_refl _, hN.hi⟩) (by rw [hety]; exact h1) (by simpa [hok] using h2) (fun idx e' he' => by
                dsimp only at he' ⊢
                rw [hok]
                obtain ⟨h4, h5⟩ := h3 idx e' he'
                exact ⟨h4, fun j y hj => by simpa using h5 j y hj⟩)
            refine ⟨_, _, _, _, hrun, .set ha (by simp [idOf]) hidm, ev, rl, .e (.c ?_)⟩
            refine .oref _ (List.getElem?_set_self hid) hl (Nat.le_refl _) hcap' fun _ => ⟨w.heap.size, 0, ?_, fun _ => by simp, e, n', hsh, ?_⟩
            · simp only [Gh.set]
              rw [List.getElem?_set_self (by rw [hR.len]; exact hid)]
            · dsimp only
              rw [Nat.zero_add, Nat.zero_add, hok]
              exact hn'
      · cases h
  · cases h
end
end Go.Ab

/- Calls: what a callee sees of memory, and what comes back. -/
namespace Go.Ab
open Go

/-! ### Freezing -/
theorem mapO_spec {α β : Type} {f : α → Option β} : ∀ {l : List α} {l' : List β}, mapO f l = some l' → l'.length = l.length ∧ ∀ (i : Nat) (y : β), l'[i]? = some y → ∃ x, l[i]? = some x ∧ f x = some y
  | [], l', h => by
    cases h
    exact ⟨rfl, fun i y hi => by simp at hi⟩
  | x :: xs, l', h => by
    simp only [mapO] at h
    split at h
    · rename_i y hy
      split at h
      · rename_i ys hys
        cases h
        obtain ⟨h1, h2⟩ := mapO_spec hys
        refine ⟨by simp [h1], fun i z hz => ?_⟩
        cases i with
        | zero => cases hz; exact ⟨x, rfl, hy⟩
        | succ i => exact h2 i z (by simpa using hz)
      · cases h
    · cases h
theorem mapO_le {α β : Type} {f g : α → Option β} (hfg : ∀ x y, f x = some y → g x = some y) : ∀ {l : List α} {l' : List β}, mapO f l = some l' → mapO g l = some l'
  | [], _, h => h
  | x :: xs, l', h => by
    simp only [mapO] at h ⊢
    split at h
    · rename_i y hy
      split at h
      · rename_i ys hys
        rw [hfg x y hy, mapO_le hfg hys]
        exact h
      · cases h
    · cases h
def Whole (m M : Mem) : Prop := ∀ (id : Nat) (o : AObj), m[id]? = some o → M[id]? = some o
theorem frzC_up {m M : Mem} (hW : Whole m M) {lo : Nat} : ∀ (n : Nat) {x : CV} {y : PV}, frzC m lo n x = some y → frzC M lo n x = some y := by
  intro n
  induction n with
  | zero => intro x y h; cases x <;> exact h
  | succ n ih =>
    intro x y h
    cases x with
    | oref id ver off len =>
      simp only [frzC] at h ⊢
      split at h
      · rename_i o ho
        rw [at_up ho fun o => hW id o]
        rcases Bool.eq_false_or_eq_true (decide (lo ≤ id) && decide (off + len ≤ o.es.length)) with hc | hc
        · rw [hc, cond_true] at h
          simp only [hc, cond_true]
          split at h
          · rename_i es hes
            rw [mapO_le (fun a b hab => mapO_le (fun c d hcd => ih hcd) hab) hes]
            exact h
          · cases h
        · rw [hc] at h; cases h
      · cases h
    | toref id ver off len =>
      simp only [frzC] at h ⊢
      split at h
      · rename_i o ho
        rw [at_up ho fun o => hW id o]
        rcases Bool.eq_false_or_eq_true (decide (lo ≤ id) && decide (off + len ≤ o.es.length)) with hc | hc
        · rw [hc, cond_true] at h
          simp only [hc, cond_true]
          split at h
          · rename_i es hes
            rw [mapO_le (fun a b hab => mapO_le (fun c d hcd => ih hcd) hab) hes]
            exact h
          · cases h
        · rw [hc] at h; cases h
      · cases h
    | _ => exact h
theorem frzC_zero {m M : Mem} {lo : Nat} {x : CV} {y : PV} (h : frzC m lo 0 x = some y) : frzC M lo 0 x = some y := by cases x <;> exact h
theorem frzC_one {m M : Mem} {lo : Nat} {x : CV} {y : PV} (hu : Up m M (.e (.c x))) (h : frzC m lo 1 x = some y) : frzC M lo 1 x = some y := by
  cases x with
  | oref id ver off len =>
    simp only [frzC] at h ⊢
    split at h
    · rename_i o ho
      rw [at_up ho fun o => hu id o rfl]
      rcases Bool.eq_false_or_eq_true (decide (lo ≤ id) && decide (off + len ≤ o.es.length)) with hc | hc
      · rw [hc, cond_true] at h
        simp only [hc, cond_true]
        split at h
        · rename_i es hes
          rw [mapO_le (fun a b hab => mapO_le (fun c d hcd => frzC_zero hcd) hab) hes]
          exact h
        · cases h
      · rw [hc] at h; cases h
    · cases h
  | toref id ver off len =>
    simp only [frzC] at h ⊢
    split at h
    · rename_i o ho
      rw [at_up ho fun o => hu id o rfl]
      rcases Bool.eq_false_or_eq_true (decide (lo ≤ id) && decide (off + len ≤ o.es.length)) with hc | hc
      · rw [hc, cond_true] at h
        simp only [hc, cond_true]
        split at h
        · rename_i es hes
          rw [mapO_le (fun a b hab => mapO_le (fun c d hcd => frzC_zero hcd) hab) hes]
          exact h
        · cases h
      · rw [hc] at h; cases h
    · cases h
  | _ => exact h
theorem frzE_up {m M : Mem} {lo : Nat} {dr : Bool} {x y : TE} (h : frzE m lo dr x = some y) (hu : dr = true → Up m M (.e x)) (hW : dr = false → Whole m M) : frzE M lo dr x = some y := by
  cases x with
  | c x =>
    simp only [frzE] at h ⊢
    split at h
    · rename_i z hz
      cases dr with
      | true => rw [cond_true] at hz ⊢; rw [frzC_one (hu rfl) hz]; exact h
      | false => rw [cond_false] at hz ⊢; rw [frzC_up (hW rfl) _ hz]; exact h
    · cases h
  | a cs =>
    simp only [frzE, frzCs] at h ⊢
    split at h
    · rename_i z hz
      cases dr with
      | true => rw [cond_true] at hz ⊢; rw [mapO_le (fun a b hab => frzC_zero hab) hz]; exact h
      | false => rw [cond_false] at hz ⊢; rw [mapO_le (fun a b hab => frzC_up (hW rfl) _ hab) hz]; exact h
    · cases h
theorem frzArgs_up {m M : Mem} {lo : Nat} {dr : Bool} : ∀ {l l' : List TE}, mapO (frzE m lo dr) l = some l' → (dr = true → ∀ x ∈ l, Up m M (.e x)) → (dr = false → Whole m M) → mapO (frzE M lo dr) l = some l'
  | [], _, h, _, _ => h
  | x :: xs, l', h, hu, hW => by
    simp only [mapO] at h ⊢
    split at h
    · rename_i y hy
      split at h
      · rename_i ys hys
        rw [frzE_up hy (fun hd => hu hd x (by simp)) hW, frzArgs_up hys (fun hd z hz => hu hd z (by simp [hz])) hW]
        exact h
      · cases h
    · cases h

theorem PR.weaken {ok ok' : Nat → Prop} {w : World} (h : ∀ b, ok b → ok' b) {x : PV} {v : Value} (hx : PR ok w x v) : PR ok' w x v := by
  induction hx with
  | c x hx => exact .c x hx
  | sl es A n cap k cv hn hcap hA _ ih =>
    refine .sl es A n cap k cv hn hcap (fun h0 => ?_) ih
    obtain ⟨b, o, rfl, hb, hc⟩ := hA h0
    exact ⟨b, o, rfl, h b hb, hc⟩
section
variable {G : Gh} {m : Mem} {w : World} {ok : Nat → Prop}
/-- A frozen row. -/
theorem row_pr {lo n : Nat} (ih : ∀ {x : CV} {y : PV} {u : Value}, frzC m lo n x = some y → CR G m w x u → PR ok w y u) {g o k : Nat} {es : List (List CV)} (hrow : Row G m w g o k es) (hg : es = [] ∨ ok g) {fs : List (List PV)}
    (hf : mapO (mapO (frzC m lo n)) es = some fs) {A : Option Addr} {cap : Nat} (hA : 0 < es.length → A = some (cellAt g o)) (hc : es.length ≤ cap) : PR ok w (.sl fs) (.slice A es.length cap) := by
  obtain ⟨hl, hs⟩ := mapO_spec hf
  obtain ⟨vs, ⟨hvl, hv⟩, hcell⟩ := flat_choose hrow
  have key : ∀ (i : Nat) (e : List PV), fs[i]? = some e → ∃ e', es[i]? = some e' ∧ e.length = k ∧ e'.length = k ∧ ∀ (j : Nat) (x : PV), e[j]? = some x → ∃ c u, e'[j]? = some c ∧ frzC m lo n c = some x ∧ vs[i * k + j]? = some u ∧ CR G m w c u := by
    intro i e he
    obtain ⟨e', he', hee⟩ := hs i e he
    obtain ⟨h1, h2⟩ := mapO_spec hee
    obtain ⟨h3, h4⟩ := hv i e' he'
    refine ⟨e', he', by omega, h3, fun j x hj => ?_⟩
    obtain ⟨c, hc, hcx⟩ := h2 j x hj
    obtain ⟨u, hu, hr⟩ := h4 j c hc
    exact ⟨c, u, hc, hcx, hu, hr⟩
  refine .sl fs A es.length cap k (fun i j => (vs[i * k + j]?).getD undef) hl hc (fun h0 => ?_) fun i e j x he hj => ?_
  · refine ⟨g, o, hA h0, ?_, fun i e he => ?_⟩
    · rcases hg with rfl | hg
      · simp at h0
      · exact hg
    · obtain ⟨e', _, h1, _, h2⟩ := key i e he
      refine ⟨h1, fun j x hj => ?_⟩
      obtain ⟨c, u, _, _, hu, _⟩ := h2 j x hj
      rw [hcell _ u hu, hu]
      rfl
  · obtain ⟨e', _, _, _, h2⟩ := key i e he
    obtain ⟨c, u, _, hcx, hu, hr⟩ := h2 j x hj
    rw [hu]
    exact ih hcx hr
theorem frzC_pr (hR : Rel G m w) {lo : Nat} (hok : ∀ b, G.ok w b → ok b) (hown : ∀ (id g b : Nat), lo ≤ id → G.at_[id]? = some (some (g, b)) → ok g) : ∀ (n : Nat) {x : CV} {y : PV} {u : Value}, frzC m lo n x = some y → CR G m w x u → PR ok w y u := by
  have base : ∀ {x : CV} {y : PV} {u : Value}, (∃ z, x = .p z ∧ y = z) ∨ (∃ es, x = .tsl es ∧ y = .sl es) → CR G m w x u → PR ok w y u := by
    rintro x y u (⟨z, rfl, rfl⟩ | ⟨es, rfl, rfl⟩) hx
    · cases hx with
      | p h => exact h.weaken hok
    · cases hx with
      | tsl h => exact h.weaken hok
  intro n
  induction n with
  | zero =>
    intro x y u h hx
    refine base ?_ hx
    cases x <;> first | (cases h; exact .inl ⟨_, rfl, rfl⟩) | (cases h; exact .inr ⟨_, rfl, rfl⟩) | cases h
  | succ n ih =>
    intro x y u h hx
    cases x with
    | oref id ver off len =>
      simp only [frzC] at h
      split at h
      · rename_i o hm0
        obtain ⟨ho, hl, hver⟩ := mem_at hm0
        subst hver
        rcases Bool.eq_false_or_eq_true (decide (lo ≤ id) && decide (off + len ≤ o.es.length)) with hc | hc
        · rw [hc, cond_true] at h
          simp only [Bool.and_eq_true, decide_eq_true_eq] at hc
          split at h
          · rename_i fs hfs
            cases h
            obtain ⟨g, b, hat, _, _, hrow⟩ := obj_at hR ho hl
            have hlen : ((o.es.drop off).take len).length = len := by simp; omega
            cases hx with
            | oref o' ho' hl9 hv9 hcap hg =>
              rename_i cap A
              rw [ho] at ho'
              cases ho'
              obtain ⟨g', b', hat', hA, _⟩ := hg rfl
              rw [hat] at hat'
              cases hat'
              have := row_pr (A := some A) (cap := cap) ih (Row.sub hrow off len) (.inr (hown id g b hc.1 hat)) hfs (fun h0 => by rw [hlen] at h0; rw [hA (by omega)]) (by rw [hlen]; exact hcap)
              rwa [hlen] at this
          · cases h
        · rw [hc] at h; cases h
      · cases h
    | toref id ver off len =>
      simp only [frzC] at h
      split at h
      · rename_i o hm0
        obtain ⟨ho, hl, hver⟩ := mem_at hm0
        subst hver
        rcases Bool.eq_false_or_eq_true (decide (lo ≤ id) && decide (off + len ≤ o.es.length)) with hc | hc
        · rw [hc, cond_true] at h
          simp only [Bool.and_eq_true, decide_eq_true_eq] at hc
          split at h
          · rename_i fs hfs
            cases h
            obtain ⟨g, b, hat, _, _, hrow⟩ := obj_at hR ho hl
            have hlen : ((o.es.drop off).take len).length = len := by simp; omega
            cases hx with
            | toref o' ho' hl9 hv9 hg =>
              rename_i A
              rw [ho] at ho'
              cases ho'
              obtain ⟨g', b', hat', hA⟩ := hg rfl
              rw [hat] at hat'
              cases hat'
              have := row_pr (A := some A) (cap := len) ih (Row.sub hrow off len) (.inr (hown id g b hc.1 hat)) hfs (fun h0 => by rw [hlen] at h0; rw [hA (by omega)]) (by rw [hlen]; exact Nat.le_refl _)
              rwa [hlen] at this
          · cases h
        · rw [hc] at h; cases h
      · cases h
    | p z => cases h; exact base (.inl ⟨_, rfl, rfl⟩) hx
    | tsl es => cases h; exact base (.inr ⟨_, rfl, rfl⟩) hx
    | ref => cases h
    | ip => cases h
    | clo => cases h
/-- A frozen value, seen from elsewhere. -/
theorem frzE_r (hR : Rel G m w) {lo : Nat} {G' : Gh} {m' : Mem} (hok : ∀ b, G.ok w b → G'.ok w b) (hown : ∀ (id g b : Nat), lo ≤ id → G.at_[id]? = some (some (g, b)) → G'.ok w g) {dr : Bool} {x y : TE} {u : Value} (h : frzE m lo dr x = some y) (hx : TER G m w x u) : TER G' m' w y u := by
  cases hx with
  | c hx =>
    simp only [frzE] at h
    split at h
    · rename_i z hz
      cases h
      exact .c (.p (frzC_pr hR hok hown _ hz hx))
    · cases h
  | a hn hx =>
    rename_i cs vs
    simp only [frzE, frzCs] at h
    split at h
    · rename_i z hz
      cases h
      obtain ⟨h1, h2⟩ := mapO_spec hz
      refine .a (by simp [h1, hn]) fun i x v hi hv => ?_
      simp only [List.getElem?_map, Option.map_eq_some_iff] at hi
      obtain ⟨p, hp, rfl⟩ := hi
      obtain ⟨c, hc, hcp⟩ := h2 i p hp
      exact .p (frzC_pr hR hok hown _ hcp (hx i c v hc hv))
    · cases h
theorem frzT_r (hR : Rel G m w) {lo : Nat} {G' : Gh} {m' : Mem} (hok : ∀ b, G.ok w b → G'.ok w b) (hown : ∀ (id g b : Nat), lo ≤ id → G.at_[id]? = some (some (g, b)) → G'.ok w g) {x y : TV} {u : Value} (h : frzT m lo x = some y) (hx : TVR G m w x u) : TVR G' m' w y u := by
  cases hx with
  | e hx =>
    simp only [frzT] at h
    split at h
    · rename_i z hz
      cases h
      exact .e (frzE_r hR hok hown hz hx)
    · cases h
  | t hn hx =>
    simp only [frzT] at h
    split at h
    · rename_i z hz
      cases h
      obtain ⟨h1, h2⟩ := mapO_spec hz
      refine .t (by simp [h1, hn]) fun i x v hi hv => ?_
      obtain ⟨c, hc, hcp⟩ := h2 i x hi
      exact frzE_r hR hok hown hcp (hx i c v hc hv)
    · cases h
  | bad => cases h

/-- What holds no slice is related whatever is ok. -/
theorem noSl_cr {G' : Gh} {m' : Mem} {x : CV} {u : Value} (h : hasSlC x = false) (hx : CR G m w x u) : CR G' m' w x u := by
  cases x with
  | p z =>
    cases z with
    | c y =>
      cases hx with
      | p h =>
        cases h with
        | c _ h => exact .p (.c _ h)
    | sl => cases h
  | _ => cases h
theorem noSl_ter {G' : Gh} {m' : Mem} {x : TE} {u : Value} (h : hasSlE x = false) (hx : TER G m w x u) : TER G' m' w x u := by
  cases hx with
  | c hx => exact .c (noSl_cr h hx)
  | a hn hx =>
    refine .a hn fun i x v hi hv => noSl_cr ?_ (hx i x v hi hv)
    simp only [hasSlE, List.any_eq_false] at h
    simpa using h x (List.mem_of_getElem? hi)
theorem noSl_tvr {G' : Gh} {m' : Mem} {x : TV} {u : Value} (h : hasSl x = false) (hx : TVR G m w x u) : TVR G' m' w x u := by
  cases hx with
  | e hx => exact .e (noSl_ter h hx)
  | t hn hx =>
    refine .t hn fun i x v hi hv => noSl_ter ?_ (hx i x v hi hv)
    simp only [hasSl, List.any_eq_false] at h
    simpa using h x (List.mem_of_getElem? hi)
  | bad => cases h
/-- What names no slice of one's own is frozen as it is. -/
theorem noOref_pr {lo n : Nat} {x : CV} {y : PV} {u : Value} (h : isOref x = false) (hf : frzC m lo n x = some y) (hx : CR G m w x u) (hok : ∀ b, G.ok w b → ok b) : PR ok w y u := by
  cases x with
  | p z =>
    cases n <;> cases hf <;> (cases hx with | p h => exact h.weaken hok)
  | tsl es => cases n <;> cases hf <;> (cases hx with | tsl h => exact h.weaken hok)
  | oref => cases h
  | toref => cases h
  | ref => cases n <;> cases hf
  | ip => cases n <;> cases hf
  | clo => cases n <;> cases hf
theorem noOref_ter {lo : Nat} {dr : Bool} {G' : Gh} {m' : Mem} {x y : TE} {u : Value} (h : (x.cells.any isOref) = false) (hf : frzE m lo dr x = some y) (hx : TER G m w x u) (hok : ∀ b, G.ok w b → G'.ok w b) : TER G' m' w y u := by
  simp only [List.any_eq_false] at h
  cases hx with
  | c hx =>
    simp only [frzE] at hf
    split at hf
    · rename_i z hz
      cases hf
      exact .c (.p (noOref_pr (by simpa using h _ (by simp [TE.cells])) hz hx hok))
    · cases hf
  | a hn hx =>
    simp only [frzE, frzCs] at hf
    split at hf
    · rename_i z hz
      cases hf
      obtain ⟨h1, h2⟩ := mapO_spec hz
      refine .a (by simp [h1, hn]) fun i x v hi hv => ?_
      simp only [List.getElem?_map, Option.map_eq_some_iff] at hi
      obtain ⟨p, hp, rfl⟩ := hi
      obtain ⟨c, hc, hcp⟩ := h2 i p hp
      exact .p (noOref_pr (by simpa using h c (by simpa [TE.cells] using List.mem_of_getElem? hc)) hcp (hx i c v hc hv) hok)
    · cases hf
end

/-! ### Calls -/
def ArgsR (G : Gh) (m : Mem) (w : World) (args : List TE) (vs : Array Value) : Prop := args.length = vs.size ∧ ∀ (i : Nat) x v, args[i]? = some x → vs[i]? = some v → TER G m w x v
/-- How a call ends that answers so. -/
def Post (G : Gh) (m : Mem) (w : World) (o : Out) : Ending → World → Prop
  | .returned u, w' => ∃ tv G', o.1 = .ret tv ∧ Ev G m w G' o.2 w' ∧ Rel G' o.2 w' ∧ TVR G' o.2 w' tv u
  | .panicked ch, w' => ∃ pv G', o.1 = .pan pv ∧ ch = [{ v := pv, recovered := false }] ∧ Ev G m w G' o.2 w' ∧ Rel G' o.2 w'
  | .outgrown, _ => False
/-- The same elements' size, object for object. -/
def Keeps (m m' : Mem) : Prop := ∀ (id : Nat) (o : AObj), m[id]? = some o → ∃ o' : AObj, m'[id]? = some o' ∧ o'.k = o.k
theorem Keeps.le {m m' : Mem} (h : Keeps m m') : m.length ≤ m'.length := by
  rcases Nat.lt_or_ge m'.length m.length with hl | hl
  · obtain ⟨o', ho, _⟩ := h m'.length _ (List.getElem?_eq_getElem hl)
    have := (List.getElem?_eq_some_iff.1 ho).1
    omega
  · exact hl
theorem Keeps.refl (m : Mem) : Keeps m m := fun _ o h => ⟨o, h, rfl⟩
theorem Keeps.trans {m m' m'' : Mem} (h : Keeps m m') (h' : Keeps m' m'') : Keeps m m'' := fun id o ho => by
  obtain ⟨o', h1, h2⟩ := h id o ho
  obtain ⟨o'', h3, h4⟩ := h' id o' h1
  exact ⟨o'', h3, h4.trans h2⟩
theorem Keeps.app (m l : Mem) : Keeps m (m ++ l) := fun id o h => ⟨o, by rw [List.getElem?_append_left (List.getElem?_eq_some_iff.1 h).1]; exact h, rfl⟩
theorem Keeps.set {m : Mem} {i : Nat} {o o' : AObj} (h : m[i]? = some o) (hk : o'.k = o.k) : Keeps m (m.set i o') := fun id x hx => by
  by_cases he : i = id
  · subst he
    rw [h] at hx
    cases hx
    exact ⟨o', List.getElem?_set_self (List.getElem?_eq_some_iff.1 h).1, hk⟩
  · exact ⟨x, by rw [List.getElem?_set_ne he]; exact hx, rfl⟩
structure CallsOk (P : Program) (g : FuncId) (args : List TE) (m : Mem) (o : Out) : Prop where
  fn : ∃ fn, P.funcs[g]? = some fn ∧ fn.body.isSome = true
  keeps : Keeps m o.2
  run : ∀ (G : Gh) (w : World) (vs : Array Value), Rel G m w → ArgsR G m w args vs → Calls P g vs w (Post G m w o)

theorem ev_grown {G G' : Gh} {m m' : Mem} {w w' : World} (h : Ev G m w G' m' w') (hn : ∀ b, ¬ G.own b) : w.grownBy w' none := ⟨h.os, h.tape, h.output, h.size, fun k hk _ => h.keep k hk (hn k)⟩
theorem rel_bare {w : World} {hid : List Nat} (h : ∀ b ∈ hid, b < w.heap.size) : Rel ⟨[], hid⟩ [] w where
  len := rfl
  obj id o ho := by simp at ho
  inj i j g b b' hi := by simp at hi
  lt i g b hi := by simp at hi
  hid i g b hi := by simp at hi
  hlt := h
  dead i x hi := by simp at hi
theorem bare_own {hid : List Nat} (b : Nat) : ¬ (⟨[], hid⟩ : Gh).own b := by
  rintro ⟨i, o, h⟩
  simp at h
/-- A call that sees no memory. -/
theorem calls_iso {P : Program} {G : Gh} {M : Mem} {w : World} (hR : Rel G M w) {g : FuncId} {args pa : List TE} {vs : Array Value} {dr : Bool} {out : Out} (hf : mapO (frzE M 0 dr) args = some pa) (ha : ArgsR G M w args vs) (hc : CallsOk P g pa [] out) :
    Calls P g vs w fun e w' => match e with
      | .returned u => ∃ tv, out.1 = .ret tv ∧ w.grownBy w' none ∧ ∀ v', frzT out.2 0 tv = some v' → (anyOref args && hasSl v') = false → TVR G M w' v' u
      | .panicked ch => ∃ pv, out.1 = .pan pv ∧ ch = [{ v := pv, recovered := false }] ∧ w.grownBy w' none
      | .outgrown => False := by
  obtain ⟨hpl, hps⟩ := mapO_spec hf
  -- the blocks that the callee must not name
  let own := G.at_.filterMap fun x => x.map (·.1)
  have hown : ∀ b, b ∈ own ↔ G.own b := by
    intro b
    simp only [own, List.mem_filterMap, Option.map_eq_some_iff, Gh.own]
    constructor
    · rintro ⟨x, hx, ⟨p, rfl, rfl⟩⟩
      obtain ⟨i, hi⟩ := List.getElem?_of_mem hx
      exact ⟨i, p.2, hi⟩
    · rintro ⟨i, o, hi⟩
      exact ⟨_, List.mem_of_getElem? hi, _, rfl, rfl⟩
  have hownlt : ∀ b, G.own b → b < w.heap.size := fun b ⟨i, o, hi⟩ => hR.lt i b o hi
  -- what comes back
  have back : ∀ (hid : List Nat) {G' : Gh} {w' : World}, (∀ b ∈ hid, b < w.heap.size) → (∀ b ∈ G.hid, b ∈ hid) → ((anyOref args = true) ∨ ∀ b, G.own b → b ∈ hid) → Ev ⟨[], hid⟩ [] w G' out.2 w' → Rel G' out.2 w' → ∀ {tv v' : TV} {u : Value}, TVR G' out.2 w' tv u → frzT out.2 0 tv = some v' → (anyOref args && hasSl v') = false → TVR G M w' v' u := by
    intro hid G' w' hlt hsub hor hev hrel tv v' u htv hfz hno
    rcases hor with hor | hor
    · rw [hor, Bool.true_and] at hno
      exact noSl_tvr hno (frzT_r hrel (G' := ⟨[], []⟩) (m' := []) (fun b hb => ⟨hb.1, bare_own b, by simp⟩) (fun id g b _ hat => ⟨hrel.lt _ _ _ hat, bare_own g, by simp⟩) hfz htv)
    · refine frzT_r hrel (fun b hb => ⟨hb.1, fun ho => ?_, fun hh => ?_⟩) (fun id g b _ hat => ?_) hfz htv
      · exact hb.2.2 (by rw [hev.hid]; exact hor b ho)
      · exact hb.2.2 (by rw [hev.hid]; exact hsub b hh)
      · have hnew : w.heap.size ≤ g := by
          rcases hev.new g ⟨id, b, hat⟩ with h | h
          · exact absurd h (bare_own g)
          · exact h
        refine ⟨hrel.lt _ _ _ hat, fun ho => ?_, fun hh => ?_⟩
        · have := hownlt g ho
          omega
        · have := hR.hlt g hh
          omega
  cases hor : anyOref args with
  | true =>
    have hrun := hc.run ⟨[], G.hid⟩ w vs (rel_bare hR.hlt) ⟨by rw [hpl]; exact ha.1, fun i y v hi hv => by
      obtain ⟨x, hx, hxy⟩ := hps i y hi
      exact frzE_r hR (fun b hb => ⟨hb.1, bare_own b, hb.2.2⟩) (fun id g b _ hat => ⟨hR.lt _ _ _ hat, bare_own g, hR.hid _ _ _ hat⟩) hxy (ha.2 i x v hx hv)⟩
    refine hrun.mono fun e w' hp => ?_
    cases e with
    | returned u =>
      obtain ⟨tv, G', h1, h2, h3, h4⟩ := hp
      exact ⟨tv, h1, ev_grown h2 bare_own, fun v' hv' hno => back G.hid hR.hlt (fun _ h => h) (.inl hor) h2 h3 h4 hv' (by rw [hor]; exact hno)⟩
    | panicked ch =>
      obtain ⟨pv, G', h1, h2, h3, _⟩ := hp
      exact ⟨pv, h1, h2, ev_grown h3 bare_own⟩
    | outgrown => exact hp
  | false =>
    have hlt : ∀ b ∈ G.hid ++ own, b < w.heap.size := by
      intro b hb
      rcases List.mem_append.1 hb with hb | hb
      · exact hR.hlt b hb
      · exact hownlt b ((hown b).1 hb)
    have hrun := hc.run ⟨[], G.hid ++ own⟩ w vs (rel_bare hlt) ⟨by rw [hpl]; exact ha.1, fun i y v hi hv => by
      obtain ⟨x, hx, hxy⟩ := hps i y hi
      simp only [anyOref, List.any_eq_false] at hor
      exact noOref_ter (by simpa using hor x (List.mem_of_getElem? hx)) hxy (ha.2 i x v hx hv) fun b hb => ⟨hb.1, bare_own b, by
        rw [List.mem_append, hown]
        rintro (h | h)
        · exact hb.2.2 h
        · exact hb.2.1 h⟩⟩
    refine hrun.mono fun e w' hp => ?_
    cases e with
    | returned u =>
      obtain ⟨tv, G', h1, h2, h3, h4⟩ := hp
      exact ⟨tv, h1, ev_grown h2 bare_own, fun v' hv' hno => back _ hlt (fun b h => List.mem_append.2 (.inl h)) (.inr fun b h => List.mem_append.2 (.inr ((hown b).2 h))) h2 h3 h4 hv' (by rw [hor]; exact hno)⟩
    | panicked ch =>
      obtain ⟨pv, G', h1, h2, h3, _⟩ := hp
      exact ⟨pv, h1, h2, ev_grown h3 bare_own⟩
    | outgrown => exact hp
end Go.Ab
