/- Framework, part C: the operations of the IR on abstract values. Conditions: none. -/
import Derived.Test.YtkkccabchhnebaaFwB
set_option linter.unusedVariables false
set_option linter.unusedSimpArgs false
namespace Go.SB

inductive Opd where
  | t (i : Nat)
  | c (v : AV)
  deriving Inhabited

def Opd.get (ρ : List AV) : Opd → AV
  | .t i => ρ.getD i .any
  | .c v => v

/-- The kinds of cells that '==' of a struct compares. -/
inductive LK where
  | int | bool | str
  deriving Inhabited, DecidableEq

/-- The kinds of values that are held against each other. -/
inductive EK where
  | bool | ptr | slice | map | func
  | struct (ks : List LK)
  deriving Inhabited

/-- The IR's operations: the loaded program's, with all that hangs on types written out. -/
inductive IOp where
  | mv (x : Opd)
  | pick (c a b : Opd)
  | alloc (z : List AV)
  | box (x : Opd)
  | build (z : List AV) (parts : List (Nat × Nat × Opd))
  | bslice (sz : Nat) (elems : List Opd)
  | load (n : Option Nat) (x : Opd)
  | store (n : Nat) (a x : Opd)
  | nilck (x : Opd)
  | bin (op : BinOp) (x y : Opd)
  | eqv (neg : Bool) (e : EK) (x y : Opd)
  | un (op : UnOp) (x : Opd)
  | cvi (k : IntKind) (x : Opd)
  | cvs (x : Opd)
  | mkfn (f : FuncId) (first captured : List Opd)
  | mkmap
  | mksl (sz bytes : Nat) (z : List AV) (n c : Opd)
  | slcs (x : Opd) (lo hi : Option Opd)
  | slc (sz : Nat) (x : Opd) (lo hi mx : Option Opd)
  | faddr (off : Nat) (x : Opd)
  | fld (off : Nat) (n : Option Nat) (x : Opd)
  | iaddr (sz : Nat) (x i : Opd)
  | iaddra (len sz : Nat) (x i : Opd)
  | idxs (x i : Opd)
  | idxa (len sz : Nat) (n : Option Nat) (x i : Opd)
  | lookup (lk : LK) (z : AV) (ok : Bool) (m k : Opd)
  | mset (lk : LK) (m k v : Opd)
  | ext (i : Nat) (x : Opd)
  | lenst (x : Opd)
  | lens (x : Opd)
  | lenc (n : Nat)
  | lenm (x : Opd)
  | app (sz bytes : Nat) (s x : Opd)
  | cpy (sz : Nat) (d s : Opd)
  | mn (xs : List Opd)
  | mx (xs : List Opd)
  | del (lk : LK) (m k : Opd)
  | clr (m : Opd)
  | clrs (sz : Nat) (z : List AV) (x : Opd)
  | mkif (t : TypeId) (x : Opd)
  | call (f : Opd) (args : List Opd)
  deriving Inhabited

/-- Integers: 'and', 'or', 'xor', 'and not' as the model has them. -/
def ibits (op : BinOp) (k : IntKind) (x y : Int) : Int :=
  match op with
  | .and => k.wrap (BitVec.ofInt k.bits x &&& BitVec.ofInt k.bits y).toNat
  | .or => k.wrap (BitVec.ofInt k.bits x ||| BitVec.ofInt k.bits y).toNat
  | .xor => k.wrap (BitVec.ofInt k.bits x ^^^ BitVec.ofInt k.bits y).toNat
  | _ => k.wrap (BitVec.ofInt k.bits x &&& ~~~ (BitVec.ofInt k.bits y)).toNat

def binI (op : BinOp) (k : IntKind) (a : Int) (k' : IntKind) (b : Int) : Option AV :=
  match op with
  | .shl => if b < 0 then none else some (.int k (k.wrap (a * 2 ^ min b.toNat k.bits)))
  | .shr => if b < 0 then none else some (.int k (a.fdiv (2 ^ min b.toNat k.bits)))
  | .add => if k = k' then some (.int k (k.wrap (a + b))) else none
  | .sub => if k = k' then some (.int k (k.wrap (a - b))) else none
  | .mul => if k = k' then some (.int k (k.wrap (a * b))) else none
  | .quo => if k = k' then (if b = 0 then none else some (.int k (k.wrap (a.tdiv b)))) else none
  | .rem => if k = k' then (if b = 0 then none else some (.int k (a.tmod b))) else none
  | .and => if k = k' then some (.int k (ibits .and k a b)) else none
  | .or => if k = k' then some (.int k (ibits .or k a b)) else none
  | .xor => if k = k' then some (.int k (ibits .xor k a b)) else none
  | .andNot => if k = k' then some (.int k (ibits .andNot k a b)) else none
  | .eql => if k = k' then some (.bool (a == b)) else none
  | .neq => if k = k' then some (.bool (a != b)) else none
  | .lss => if k = k' then some (.bool (decide (a < b))) else none
  | .leq => if k = k' then some (.bool (decide (a ≤ b))) else none
  | .gtr => if k = k' then some (.bool (decide (a > b))) else none
  | .geq => if k = k' then some (.bool (decide (a ≥ b))) else none

def binS (op : BinOp) (a b : List UInt8) : Option AV :=
  match op with
  | .add => if a.length + b.length ≤ 4611686018427387904 then some (.str (a ++ b)) else none
  | .eql => some (.bool (a == b))
  | .neq => some (.bool (!(a == b)))
  | .lss => some (.bool (Op.bytesLess a b))
  | .leq => some (.bool (Op.bytesLess a b || a == b))
  | .gtr => some (.bool (!(Op.bytesLess a b || a == b)))
  | .geq => some (.bool (!(Op.bytesLess a b)))
  | _ => none

def AV.bin (op : BinOp) : AV → AV → Option AV
  | .int k a, .int k' b => binI op k a k' b
  | .str a, .str b => binS op a b
  | _, _ => none

/-- '==' of one cell. -/
def AV.eqK : LK → AV → AV → Option Bool
  | .int, .int k a, .int k' b => if k = k' then some (a == b) else none
  | .bool, .bool a, .bool b => some (a == b)
  | .str, .str a, .str b => some (a == b)
  | _, _, _ => none

def AV.eqL : List LK → List AV → List AV → Option Bool
  | [], [], [] => some true
  | k :: ks, a :: as, b :: bs => match AV.eqK k a b with
    | some r => match AV.eqL ks as bs with
      | some s => some (r && s)
      | none => none
    | none => none
  | _, _, _ => none

/-- Is it nil? -/
def AV.nilP : AV → Option Bool
  | .nilp => some true
  | .ptr _ _ | .eptr _ _ _ | .pp _ => some false
  | _ => none
def AV.nilS : AV → Option Bool
  | .nils => some true
  | .sl _ _ _ _ _ | .es | .ps _ (_ :: _) => some false
  | _ => none
def AV.nilM : AV → Option Bool
  | .nilm => some true
  | .mp _ => some false
  | _ => none
def AV.nilF : AV → Option Bool
  | .nilf => some true
  | .fn _ _ _ => some false
  | _ => none

/-- Two of which one at least is nil. -/
def eqNil : Option Bool → Option Bool → Option Bool
  | some true, some b => some b
  | some false, some true => some false
  | _, _ => none

def AV.eqB : AV → AV → Option Bool
  | .bool a, .bool b => some (a == b)
  | _, _ => none

def AV.eqS (ks : List LK) : AV → AV → Option Bool
  | .agg as, .agg bs => AV.eqL ks as bs
  | _, _ => none

/-- '==' of values that are no numbers and no strings. -/
def AV.eqv (e : EK) (x y : AV) : Option Bool :=
  match e with
  | .bool => AV.eqB x y
  | .ptr => eqNil x.nilP y.nilP
  | .slice => eqNil x.nilS y.nilS
  | .map => eqNil x.nilM y.nilM
  | .func => eqNil x.nilF y.nilF
  | .struct ks => AV.eqS ks x y

def AV.cells : AV → List AV
  | .agg cs => cs
  | .any => []
  | v => [v]

def bfill (z : List AV) : List (Nat × Nat × AV) → Option (List AV)
  | [] => some z
  | (off, size, v) :: ps => if v.cells.length = size ∧ off + size ≤ z.length then bfill (wrt z off v.cells) ps else none

def AV.unop : UnOp → AV → Option AV
  | .neg, .int k n => some (.int k (k.wrap (0 - n)))
  | .xor, .int k n => some (.int k (ibits .xor k (if k.signed then -1 else k.max) n))
  | .not, .bool b => some (.bool (!b))
  | _, _ => none

/-- A bound of a slice expression: a number from 0 to y. -/
def bnd (y : Nat) : AV → Option Nat
  | .int _ n => if 0 ≤ n ∧ n ≤ y then some n.toNat else none
  | _ => none

def hiOr (len : Nat) : Option AV → Option Nat
  | some h => bnd len h
  | none => some len

/-- low, high and max of a slice expression; 'cap': what max may be at most. -/
def bnds (len cap : Nat) (lo hi mx : Option AV) : Option (Nat × Nat × Option Nat) :=
  match mx with
  | some m => match bnd cap m with
    | some m => match hi with
      | some h => match bnd m h with
        | some h => match lo with
          | some l => match bnd h l with
            | some l => some (l, h, some m)
            | none => none
          | none => some (0, h, some m)
        | none => none
      | none => none
    | none => none
  | none =>
    match hiOr len hi with
    | some h => match lo with
      | some l => match bnd h l with
        | some l => some (l, h, none)
        | none => none
      | none => some (0, h, none)
    | none => none

def AV.slcs (x : AV) (lo hi : Option AV) : Option AV :=
  match x with
  | .str s => match bnds s.length s.length lo hi none with
    | some (l, h, _) => some (.str ((s.drop l).take (h - l)))
    | none => none
  | _ => none

def AV.slc (size : Nat) (x : AV) (lo hi mx : Option AV) : Option AV :=
  match x with
  | .sl p sz b len t => if sz = size then (match bnds len len lo hi mx with
    | some (l, h, m) => some (.sl p sz (b + l) (h - l) (match m with | some m => decide (m = h) | none => t && decide (h = len)))
    | none => none) else none
  | .nils => match bnds 0 0 lo hi mx with
    | some _ => some .nils
    | none => none
  | .es => match bnds 0 0 lo hi mx with
    | some _ => some .es
    | none => none
  | .ps sz xs => if sz = size then (match mx with
    | some _ => none
    | none => match bnds xs.length xs.length lo hi none with
      | some (l, h, _) => some (.ps sz ((xs.drop l).take (h - l)))
      | none => none) else none
  | _ => none

def AV.faddr (off : Nat) : AV → Option AV
  | .ptr l o => some (.ptr l (o + off))
  | .eptr l i o => some (.eptr l i (o + off))
  | .pp cs => some (.pp (cs.drop off))
  | _ => none

def AV.part (off : Nat) (n : Option Nat) (cs : List AV) : Option AV :=
  match n with
  | none => cs[off]?
  | some n => if off + n ≤ cs.length then some (.agg ((cs.drop off).take n)) else none

def AV.fld (off : Nat) (n : Option Nat) : AV → Option AV
  | .agg cs => AV.part off n cs
  | _ => none

def AV.iaddr (sz : Nat) (x i : AV) : Option AV :=
  match i with
  | .int _ i => match x with
    | .sl l sz' lo len _ => if sz' = sz then (if 0 ≤ i ∧ i < len then some (.eptr l (lo + i.toNat) 0) else none) else none
    | .ps sz' xs => if sz' = sz then (if 0 ≤ i ∧ i < xs.length then some (.pp (xs.getD i.toNat [])) else none) else none
    | _ => none
  | _ => none

def AV.iaddra (len sz : Nat) (x i : AV) : Option AV :=
  match i with
  | .int _ i => if 0 ≤ i ∧ i < len then AV.faddr (i.toNat * sz) x else none
  | _ => none

def AV.idxs (x i : AV) : Option AV :=
  match x, i with
  | .str s, .int _ i => if 0 ≤ i ∧ i < s.length then some (.int .u8 (s.getD i.toNat 0).toNat) else none
  | _, _ => none

def AV.idxa (len sz : Nat) (n : Option Nat) (x i : AV) : Option AV :=
  match x, i with
  | .agg cs, .int _ i => if 0 ≤ i ∧ i < len then AV.part (i.toNat * sz) n cs else none
  | _, _ => none

def AV.lenst : AV → Option AV
  | .str s => some (.int .i64 s.length)
  | _ => none

def AV.lens : AV → Option AV
  | .sl _ _ _ len _ => some (.int .i64 len)
  | .es | .nils => some (.int .i64 0)
  | .ps _ xs => some (.int .i64 xs.length)
  | _ => none

def AV.mn2 : AV → AV → Option AV
  | .int k x, .int _ y => some (.int k (if y < x then y else x))
  | _, _ => none
def AV.mx2 : AV → AV → Option AV
  | .int k x, .int _ y => some (.int k (if y > x then y else x))
  | _, _ => none

def foldO (f : AV → AV → Option AV) : AV → List AV → Option AV
  | x, [] => some x
  | x, y :: ys => match f x y with
    | some z => foldO f z ys
    | none => none

/-- A key in a map: where it stands. -/
def mfind (lk : LK) (k : AV) : List (AV × AV) → Nat → Option (Option (Nat × AV))
  | [], _ => some none
  | (k', v) :: es, i => match AV.eqK lk k k' with
    | some true => some (some (i, v))
    | some false => mfind lk k es (i + 1)
    | none => none

/-- Operations that look into no memory. -/
def nstep (ρ : List AV) : IOp → Option AV
  | .mv x => some (x.get ρ)
  | .pick c a b => match c.get ρ with
    | .bool c => some (bif c then a.get ρ else b.get ρ)
    | _ => none
  | .build z ps => match bfill z (ps.map fun (o, s, x) => (o, s, x.get ρ)) with
    | some cs => some (.agg cs)
    | none => none
  | .nilck x => match x.get ρ with
    | .ptr l o => some (.ptr l o)
    | .eptr l i o => some (.eptr l i o)
    | .pp cs => some (.pp cs)
    | .fn f a b => some (.fn f a b)
    | _ => none
  | .bin op x y => AV.bin op (x.get ρ) (y.get ρ)
  | .eqv neg e x y => match AV.eqv e (x.get ρ) (y.get ρ) with
    | some r => some (.bool (r != neg))
    | none => none
  | .un op x => AV.unop op (x.get ρ)
  | .cvi k x => match x.get ρ with
    | .int _ n => some (.int k (k.wrap n))
    | _ => none
  | .cvs x => match x.get ρ with
    | .str s => some (.str s)
    | _ => none
  | .mkfn f a b => some (.fn f (a.map (·.get ρ)) (b.map (·.get ρ)))
  | .slcs x lo hi => AV.slcs (x.get ρ) (lo.map (·.get ρ)) (hi.map (·.get ρ))
  | .slc sz x lo hi mx => AV.slc sz (x.get ρ) (lo.map (·.get ρ)) (hi.map (·.get ρ)) (mx.map (·.get ρ))
  | .faddr off x => AV.faddr off (x.get ρ)
  | .fld off n x => AV.fld off n (x.get ρ)
  | .iaddr sz x i => AV.iaddr sz (x.get ρ) (i.get ρ)
  | .iaddra len sz x i => AV.iaddra len sz (x.get ρ) (i.get ρ)
  | .idxs x i => AV.idxs (x.get ρ) (i.get ρ)
  | .idxa len sz n x i => AV.idxa len sz n (x.get ρ) (i.get ρ)
  | .ext i x => match x.get ρ with
    | .tup vs => vs[i]?
    | _ => none
  | .lenst x => AV.lenst (x.get ρ)
  | .lens x => AV.lens (x.get ρ)
  | .lenc n => some (.int .i64 n)
  | .mn xs => match xs.map (·.get ρ) with
    | [] => none
    | x :: r => foldO AV.mn2 x r
  | .mx xs => match xs.map (·.get ρ) with
    | [] => none
    | x :: r => foldO AV.mx2 x r
  | .mkif t x => some (.ifc t (x.get ρ))
  | _ => none

def aload (A : AHeap) (n : Option Nat) (x : AV) : Option AV :=
  match n with
  | none => match rdN A x 1 with
    | some [v] => some v
    | _ => none
  | some n => match rdN A x n with
    | some vs => some (.agg vs)
    | none => none

def alookup (A : AHeap) (lk : LK) (z : AV) (ok : Bool) (m k : AV) : Option AV :=
  match m with
  | .nilm => some (bif ok then .tup [z, .bool false] else z)
  | .mp l => match A[l]? with
    | some (some (.map es)) => match mfind lk k es 0 with
      | some (some (_, v)) => some (bif ok then .tup [v, .bool true] else v)
      | some none => some (bif ok then .tup [z, .bool false] else z)
      | none => none
    | _ => none
  | _ => none

def alenm (A : AHeap) : AV → Option AV
  | .nilm => some (.int .i64 0)
  | .mp l => match A[l]? with
    | some (some (.map es)) => some (.int .i64 es.length)
    | _ => none
  | _ => none

/-- Operations that read memory. -/
def rstep (ρ : List AV) (A : AHeap) : IOp → Option AV
  | .load n x => aload A n (x.get ρ)
  | .lookup lk z ok m k => alookup A lk z ok (m.get ρ) (k.get ρ)
  | .lenm x => alenm A (x.get ρ)
  | _ => none

/-- The elements that a slice shows. -/
def elemsOf (A : AHeap) (sz : Nat) : AV → Option (List (List AV))
  | .sl l sz' lo len _ => match A[l]? with
    | some (some (.arr es)) => if sz' = sz ∧ lo + len ≤ es.length then some ((es.drop lo).take len) else none
    | _ => none
  | .nils | .es => some []
  | .ps sz' es => if sz' = sz then some es else none
  | _ => none

def amset (A : AHeap) (lk : LK) (m k v : AV) : Option AHeap :=
  match m with
  | .mp l => match A[l]? with
    | some (some (.map es)) => match mfind lk k es 0 with
      | some (some (i, _)) => some (A.set l (some (.map (es.set i (k, v)))))
      | some none => some (A.set l (some (.map (es ++ [(k, v)]))))
      | none => none
    | _ => none
  | _ => none

def amdel (A : AHeap) (lk : LK) (m k : AV) : Option AHeap :=
  match m with
  | .nilm => some A
  | .mp l => match A[l]? with
    | some (some (.map es)) => match mfind lk k es 0 with
      | some (some (i, _)) => some (A.set l (some (.map (es.eraseIdx i))))
      | some none => some A
      | none => none
    | _ => none
  | _ => none

def amclr (A : AHeap) (m : AV) : Option AHeap :=
  match m with
  | .nilm => some A
  | .mp l => match A[l]? with
    | some (some (.map _)) => some (A.set l (some (.map [])))
    | _ => none
  | _ => none

def aapp (A : AHeap) (p sz bytes : Nat) (s : AV) (xs : List (List AV)) : Option (AV × AHeap) :=
  match s with
  | .nils => match xs with
    | [] => some (.nils, A)
    | x0 :: xr => match A[p]? with
      | some none => if (x0 :: xr).length * bytes ≤ 140737488355328 then some (.sl p sz 0 (x0 :: xr).length false, A.set p (some (.arr (x0 :: xr)))) else none
      | _ => none
  | .es => match xs with
    | [] => some (.es, A)
    | x0 :: xr => match A[p]? with
      | some none => if (x0 :: xr).length * bytes ≤ 140737488355328 then some (.sl p sz 0 (x0 :: xr).length false, A.set p (some (.arr (x0 :: xr)))) else none
      | _ => none
  | .sl l sz' lo len tight => match A[l]? with
    | some (some (.arr es)) => match A[p]? with
      | some none => if sz' = sz ∧ lo + len ≤ es.length ∧ (len + xs.length) * bytes ≤ 140737488355328 then
          (bif tight && !xs.isEmpty then some (.sl p sz 0 (len + xs.length) false, A.set p (some (.arr ((es.drop lo).take len ++ xs))))
           else some (.sl p sz 0 (len + xs.length) false, (A.set l (some .dead)).set p (some (.arr ((es.drop lo).take len ++ xs)))))
        else none
      | _ => none
    | _ => none
  | _ => none

def acpy (A : AHeap) (sz : Nat) (d : AV) (xs : List (List AV)) : Option (AV × AHeap) :=
  match d with
  | .sl l sz' lo len _ => match A[l]? with
    | some (some (.arr es)) => if sz' = sz ∧ lo + len ≤ es.length then
        some (.int .i64 (min xs.length len : Nat), A.set l (some (.arr (es.take lo ++ xs.take len ++ es.drop (lo + min xs.length len)))))
      else none
    | _ => none
  | .nils | .es => some (.int .i64 0, A)
  | _ => none

/-- All that a slice shows is made z. -/
def aclrs (A : AHeap) (sz : Nat) (z : List AV) (x : AV) : Option AHeap :=
  match x with
  | .nils | .es => some A
  | .sl l sz' lo len _ => match A[l]? with
    | some (some (.arr es)) => if sz' = sz ∧ lo + len ≤ es.length then some (A.set l (some (.arr (es.take lo ++ List.replicate len z ++ es.drop (lo + len))))) else none
    | _ => none
  | _ => none

/-- The elements are of that many cells, each storable. -/
def rowsOk (sz : Nat) (xs : List (List AV)) : Bool := xs.all fun e => e.length == sz && e.all AV.one

def amksl (A : AHeap) (p sz bytes : Nat) (z : List AV) (n c : AV) : Option (AV × AHeap) :=
  match A[p]? with
  | some none => match n, c with
    | .int _ n, .int _ c => if 0 ≤ n ∧ n = c ∧ n * bytes ≤ 140737488355328 then some (.sl p sz 0 n.toNat true, A.set p (some (.arr (List.replicate n.toNat z)))) else none
    | _, _ => none
  | _ => none

def abslice (A : AHeap) (p sz : Nat) (vs : List (List AV)) : Option (AV × AHeap) :=
  match A[p]? with
  | some none => if vs.all (fun e => e.length == sz) then some (.sl p sz 0 vs.length true, A.set p (some (.arr vs))) else none
  | _ => none

def anew (A : AHeap) (p : Nat) (v : AV) (o : AO) : Option (AV × AHeap) :=
  match A[p]? with
  | some none => some (v, A.set p (some o))
  | _ => none

def withAny (o : Option AHeap) : Option (AV × AHeap) :=
  match o with
  | some A => some (.any, A)
  | none => none

/-- Operations that write or make memory. p: a place kept free for what is made. -/
def wstep (ρ : List AV) (A : AHeap) (p : Nat) : IOp → Option (AV × AHeap)
  | .alloc z => anew A p (.ptr p 0) (.cells z)
  | .box x => anew A p (.ptr p 0) (.cells (x.get ρ).cells)
  | .bslice sz es => abslice A p sz (es.map fun x => (x.get ρ).cells)
  | .mkmap => anew A p (.mp p) (.map [])
  | .mksl sz bytes z n c => amksl A p sz bytes z (n.get ρ) (c.get ρ)
  | .store n a x => if (x.get ρ).cells.length = n then withAny (wrN A (a.get ρ) (x.get ρ).cells) else none
  | .mset lk m k v => withAny (amset A lk (m.get ρ) (k.get ρ) (v.get ρ))
  | .del lk m k => withAny (amdel A lk (m.get ρ) (k.get ρ))
  | .clr m => withAny (amclr A (m.get ρ))
  | .clrs sz z x => withAny (aclrs A sz z (x.get ρ))
  | .app sz bytes s x => match elemsOf A sz (x.get ρ) with
    | none => none
    | some xs => if rowsOk sz xs then aapp A p sz bytes (s.get ρ) xs else none
  | .cpy sz d s => match elemsOf A sz (s.get ρ) with
    | none => none
    | some xs => if rowsOk sz xs then acpy A sz (d.get ρ) xs else none
  | _ => none

/-- One operation that is no call. -/
def astep (ρ : List AV) (A : AHeap) (p : Nat) (o : IOp) : Option (AV × AHeap) :=
  match nstep ρ o with
  | some v => some (v, A)
  | none => match rstep ρ A o with
    | some v => some (v, A)
    | none => wstep ρ A p o

end Go.SB
