/- The abstract machine, third part: what each operation does to abstract values. Leans on no program. -/
import Derived.Test.YtdeafbgnbgihgaaVM2
import Derived.MapKept
set_option linter.unusedSimpArgs false
set_option linter.unusedVariables false
namespace Go.Proofs.Ytdeafbgnbgihgaa
open Go.RowKit

/-! ### the types of a program, as the machine knows them -/
inductive TK where
  | int (k : IntKind)
  | bool
  | str
  | ptr (e : Nat)
  | sl (e : Nat)
  | strct (fs : List (Nat × Nat))
  | ar (n e : Nat)
  | fn
  | other
  /-- a strings.Builder; the type of a byte -/
  | bld (e : Nat)
  /-- a map: the types of keys and values -/
  | mp (k e : Nat)
structure TI where
  kind : TK
  size : Nat
  bytes : Nat
  zero : V
  eq : Bool := false
def TI.agg (i : TI) : Bool :=
  match i.kind with
  | .strct _ => true
  | .ar _ _ => true
  | .bld _ => true
  | _ => false
abbrev TT := Nat → Option TI
def TK.ok : TypeDesc → TK → Prop
  | .int k, .int k' => k = k'
  | .bool, .bool => True
  | .string, .str => True
  | .pointer e, .ptr e' => e = e'
  | .slice e, .sl e' => e = e'
  | .struct fs, .strct l => fs.toList.map (fun f => (f.offset, f.type)) = l
  | .array n e, .ar n' e' => n = n' ∧ e = e'
  | .func _ _ _, .fn => True
  | .struct _, .bld _ => True
  | .map k e, .mp k' e' => k = k' ∧ e = e'
  | _, _ => False
structure TIok (P : Program) (t : Nat) (i : TI) : Prop where
  ex : ∃ f d z, P.info? t = some f ∧ f.size = i.size ∧ f.bytes = i.bytes ∧ f.zero = some z ∧ P.underlying t = some d ∧ TK.ok d i.kind ∧
    (∀ w M h, rep1 w M h i.zero z) ∧ z.cells.size = i.size ∧ (i.agg = false → i.size = 1)
  eqs : i.eq = true → P.stoodInHeld t = false ∧ P.eqGuardType P.depth t = false ∧ ((P.fieldsOf t).toList.all fun f => f.name != "_") = true
def TOk (P : Program) (tt : TT) : Prop := ∀ t i, tt t = some i → TIok P t i

/-! ### slots -/
def killH (x : Nat) : List Blk → List Blk
  | [] => []
  | b :: r => b.kill x :: killH x r
def ofC : Value → V
  | .int k n => .d (.int k n)
  | .bool b => .d (.bool b)
  | .string s => .d (.str s)
  | .slice none 0 0 => .nils
  | .pointer none => .nilp
  | _ => .top
def ev (e : Env) : Operand → V
  | .tmp t => gt e t
  | .const v => ofC v
  | .func f => .fn (.func f) []
  | .global _ => .top

def evs (e : Env) : List Operand → List V
  | [] => []
  | x :: xs => ev e x :: evs e xs

/-! ### parts of a value -/
mutual
def V.size : V → Nat
  | .d x => x.size
  | .st fs => V.sizes fs
  | .top => 1
  | .undef => 0
  | .nils => 1
  | .nilp => 1
  | .own _ _ _ => 1
  | .pB _ _ _ => 1
  | .pL _ _ _ _ => 1
  | .pX _ => 1
  | .fn _ _ => 1
  | .tup _ => 0
def V.sizes : List V → Nat
  | [] => 0
  | f :: fs => f.size + V.sizes fs
end
/-- a value that one variable may hold -/
def V.okc : V → Bool
  | .top => false
  | .undef => false
  | .tup _ => false
  | _ => true
def fldV : List V → Nat → Nat → Option (V × Nat)
  | [], _, _ => none
  | v :: _, 0, off => some (v, off)
  | v :: vs, i + 1, off => fldV vs i (off + v.size)
def fldD : List D → Nat → Nat → Option (D × Nat)
  | [], _, _ => none
  | v :: _, 0, off => some (v, off)
  | v :: vs, i + 1, off => fldD vs i (off + v.size)
def D.sub : D → List Nat → Nat → Option (D × Nat)
  | x, [], off => some (x, off)
  | .st ds, i :: p, off => match fldD ds i off with
    | some (u, o) => u.sub p o
    | none => none
  | _, _ :: _, _ => none
def V.sub : V → List Nat → Nat → Option (V × Nat)
  | v, [], off => some (v, off)
  | .st fs, i :: p, off => match fldV fs i off with
    | some (u, o) => u.sub p o
    | none => none
  | .d x, i :: p, off => match x.sub (i :: p) off with
    | some (u, o) => some (.d u, o)
    | none => none
  | _, _ :: _, _ => none
def setN {α : Type} : List α → Nat → α → List α
  | [], _, _ => []
  | _ :: vs, 0, x => x :: vs
  | v :: vs, i + 1, x => v :: setN vs i x
def D.upd : D → List Nat → D → Option D
  | _, [], y => some y
  | .st ds, i :: p, y => match fldD ds i 0 with
    | some (u, _) => match u.upd p y with
      | some u' => some (.st (setN ds i u'))
      | none => none
    | none => none
  | _, _ :: _, _ => none
def toVs : List D → List V
  | [] => []
  | x :: xs => .d x :: toVs xs
def V.upd : V → List Nat → V → Option V
  | _, [], y => some y
  | .st fs, i :: p, y => match fldV fs i 0 with
    | some (u, _) => match u.upd p y with
      | some u' => some (.st (setN fs i u'))
      | none => none
    | none => none
  | .d (.st ds), i :: p, y => match fldD ds i 0 with
    | some (u, _) => match (V.d u).upd p y with
      | some u' => some (.st (setN (toVs ds) i u'))
      | none => none
    | none => none
  | _, _ :: _, _ => none

/-! ### choices and numbers -/
def BIf (b : Bool) (A B : Prop) : Prop :=
  match b with
  | true => A
  | false => B
theorem BIf.mk {b : Bool} {A B : Prop} (h1 : b = true → A) (h2 : b = false → B) : BIf b A B := by
  cases b
  · exact h2 rfl
  · exact h1 rfl
theorem BIf.elim {b : Bool} {A B C : Prop} (h : BIf b A B) (h1 : b = true → A → C) (h2 : b = false → B → C) : C := by
  cases b
  · exact h2 rfl h
  · exact h1 rfl h

/-! ### the stops of a walk: each a name of its own, so that a step of a proof fits one kind alone -/
structure ArW (k : IntKind) (raw : Int) (K : Int → Prop) : Prop where
  ex : ∃ z, z = k.wrap raw ∧ K z
structure NzW (b : Int) (K : Prop) : Prop where
  ex : b ≠ 0 ∧ K
structure IxW (i : Int) (xs : List D) (K : D → Prop) : Prop where
  ex : ∃ y, 0 ≤ i ∧ xs[i.toNat]? = some y ∧ K y
structure IoW (i : Int) (len : Nat) (K : Nat → Prop) : Prop where
  ex : 0 ≤ i ∧ i < (len : Int) ∧ K i.toNat
structure EoW (k : Nat) (xs : List D) (K : D → Prop) : Prop where
  ex : ∃ y, xs[k]? = some y ∧ K y
structure ChW (i : Int) (s : ByteArray) (K : UInt8 → Prop) : Prop where
  ex : ∃ c : UInt8, 0 ≤ i ∧ s[i.toNat]? = some c ∧ K c
structure BnW (i : Int) (K : Nat → Prop) : Prop where
  ex : 0 ≤ i ∧ K i.toNat
structure SlW (l r n : Nat) (K : Prop) : Prop where
  ex : l ≤ r ∧ r ≤ n ∧ K
structure SzW (n : Nat) (xs : List D) (K : Prop) : Prop where
  ex : (∀ y ∈ xs, y.size = n) ∧ K
/-- the bytes of a row -/
def bD (c : UInt8) : D := .int .u8 c.toNat
structure StW (xs : List D) (K : ByteArray → Prop) : Prop where
  ex : ∃ s : ByteArray, xs = s.data.toList.map bD ∧ K s
structure EqW (a b : Nat) (K : Prop) : Prop where
  ex : a = b ∧ K
structure CatW (a b : ByteArray) (K : Prop) : Prop where
  ex : a.size + b.size ≤ maxLen ∧ K

def bndV (o : Option V) (d : Nat) (K : Nat → Prop) : Prop :=
  match o with
  | none => K d
  | some (.d (.int _ i)) => BnW i K
  | _ => False

def binI (op : BinOp) (k : IntKind) (a b : Int) (K : V → Prop) : Prop :=
  match op with
  | .add => ArW k (a + b) fun z => K (.d (.int k z))
  | .sub => ArW k (a - b) fun z => K (.d (.int k z))
  | .mul => ArW k (a * b) fun z => K (.d (.int k z))
  | .quo => NzW b (ArW k (a.tdiv b) fun z => K (.d (.int k z)))
  | .rem => NzW b (K (.d (.int k (a.tmod b))))
  | .and => ArW k (BitVec.ofInt k.bits a &&& BitVec.ofInt k.bits b).toNat fun z => K (.d (.int k z))
  | .or => ArW k (BitVec.ofInt k.bits a ||| BitVec.ofInt k.bits b).toNat fun z => K (.d (.int k z))
  | .xor => ArW k (BitVec.ofInt k.bits a ^^^ BitVec.ofInt k.bits b).toNat fun z => K (.d (.int k z))
  | .eql => K (.d (.bool (a == b)))
  | .neq => K (.d (.bool (a != b)))
  | .lss => K (.d (.bool (decide (a < b))))
  | .leq => K (.d (.bool (decide (a ≤ b))))
  | .gtr => K (.d (.bool (decide (b < a))))
  | .geq => K (.d (.bool (decide (b ≤ a))))
  | _ => False
def binS (op : BinOp) (a b : ByteArray) (K : V → Prop) : Prop :=
  match op with
  | .add => CatW a b (K (.d (.str (a ++ b))))
  | .eql => K (.d (.bool (a.toList == b.toList)))
  | .neq => K (.d (.bool (!(a.toList == b.toList))))
  | .lss => K (.d (.bool (Op.bytesLess a.toList b.toList)))
  | .gtr => K (.d (.bool (!(Op.bytesLess a.toList b.toList || a.toList == b.toList))))
  | .leq => K (.d (.bool (Op.bytesLess a.toList b.toList || a.toList == b.toList)))
  | .geq => K (.d (.bool (!Op.bytesLess a.toList b.toList)))
  | _ => False
/-- is a slice of length n nil: it may be, if n = 0 -/
structure NlW (n : Nat) (A B : Prop) : Prop where
  ex : (n = 0 → A) ∧ B
def nlV (tt : TT) (op : BinOp) (t n : Nat) (K : V → Prop) : Prop :=
  match tt t with
  | some { kind := .sl _, .. } => (match op with
    | .eql => NlW n (K (.d (.bool true))) (K (.d (.bool false)))
    | .neq => NlW n (K (.d (.bool false))) (K (.d (.bool true)))
    | _ => False)
  | _ => False
/-- what a shift multiplies or divides by -/
structure ShW (p : Int) (K : Int → Prop) : Prop where
  ex : ∃ q, q = p ∧ 0 < q ∧ K q
def shV (op : BinOp) (k : IntKind) (a b : Int) (K : V → Prop) (E : Prop) : Prop :=
  match op with
  | .shl => BnW b fun n => ShW (2 ^ min n k.bits) fun q => ArW k (a * q) fun z => K (.d (.int k z))
  | .shr => BnW b fun n => ShW (2 ^ min n k.bits) fun q => K (.d (.int k (a / q)))
  | _ => E
def isBool : Option TI → Bool
  | some { kind := .bool, .. } => true
  | _ => false
def isStr : Option TI → Bool
  | some { kind := .str, .. } => true
  | _ => false
/-- two structs of numbers, truths and strings, field by field -/
def eqE (tt : TT) : List (Nat × Nat) → Nat → List D → List D → Option Bool
  | [], _, [], [] => some true
  | (o, f) :: fs, off, .int k a :: as, .int k' b :: bs => match tt f with
    | some { kind := .int _, .. } => bif Nat.beq o off && decide (k = k') then (match eqE tt fs (off + 1) as bs with
      | some r => some ((a == b) && r)
      | none => none) else none
    | _ => none
  | (o, f) :: fs, off, .bool a :: as, .bool b :: bs => match tt f with
    | some { kind := .bool, .. } => bif Nat.beq o off then (match eqE tt fs (off + 1) as bs with
      | some r => some ((a == b) && r)
      | none => none) else none
    | _ => none
  | (o, f) :: fs, off, .str a :: as, .str b :: bs => match tt f with
    | some { kind := .str, .. } => bif Nat.beq o off then (match eqE tt fs (off + 1) as bs with
      | some r => some ((a.toList == b.toList) && r)
      | none => none) else none
    | _ => none
  | _, _, _, _ => none
def binV (tt : TT) (op : BinOp) (t : Nat) (x y : V) (K : V → Prop) : Prop :=
  match x, y with
  | .d (.int k a), .d (.int k' b) => shV op k a b K (bif decide (k = k') then binI op k a b K else False)
  | .d (.str a), .d (.str b) => binS op a b K
  | .d (.bool a), .d (.bool b) => bif isBool (tt t) then (match op with
    | .eql => K (.d (.bool (a == b)))
    | .neq => K (.d (.bool (!(a == b))))
    | _ => False) else False
  | .d (.st as), .d (.st bs) => match tt t with
    | some { kind := .strct fs, eq := true, .. } => match eqE tt fs 0 as bs with
      | some r => (match op with
        | .eql => K (.d (.bool r))
        | .neq => K (.d (.bool (!r)))
        | _ => False)
      | none => False
    | _ => False
  | .d (.lst xs), .nils => nlV tt op t xs.length K
  | .own _ _ n, .nils => nlV tt op t n K
  | .nils, .nils => nlV tt op t 0 K
  | _, _ => False
def unV (op : UnOp) (x : V) (K : V → Prop) : Prop :=
  match op, x with
  | .not, .d (.bool b) => K (.d (.bool (!b)))
  | .neg, .d (.int k n) => ArW k (0 - n) fun z => K (.d (.int k z))
  | _, _ => False
def convV (tt : TT) (d : Nat) (x : V) (K : V → Prop) : Prop :=
  match tt d, x with
  | some { kind := .int k, .. }, .d (.int _ n) => ArW k n fun z => K (.d (.int k z))
  | some { kind := .str, .. }, .d (.str s) => K (.d (.str s))
  | _, _ => False
def lenV (tt : TT) (t : Nat) (x : V) (K : V → Prop) : Prop :=
  match tt t, x with
  | some { kind := .str, .. }, .d (.str s) => K (.d (.int .i64 s.size))
  | some { kind := .sl _, .. }, .d (.lst xs) => K (.d (.int .i64 xs.length))
  | some { kind := .sl _, .. }, .own _ _ n => K (.d (.int .i64 n))
  | some { kind := .sl _, .. }, .nils => K (.d (.int .i64 (0 : Nat)))
  | _, _ => False
/-- the room of a nil slice -/
def capV (tt : TT) (t : Nat) (x : V) (K : V → Prop) : Prop :=
  match tt t, x with
  | some { kind := .sl _, .. }, .nils => K (.d (.int .i64 (0 : Nat)))
  | _, _ => False

/-! ### memory -/
/-- a slice that lies in a cell, whose row is a block of its own -/
structure HoW (h : List Blk) (g len cap : Nat) (K : V → Prop) : Prop where
  ex : ∃ (j c n : Nat) (xs : List D) (dp : Bool) (sz : Nat) (t : TypeId), h[j]? = some (Blk.pin c g sz t) ∧ h[c]? = some (Blk.arr n xs dp) ∧ (cap = 0 ∨ cap * n < sz) ∧ K (.own c 0 len)
def holeV (h : List Blk) (u : D) (K : V → Prop) : Prop :=
  match u with
  | .hole g len cap => HoW h g len cap K
  | _ => K (.d u)
/-- a value out of a box: a slice that lies elsewhere, or itself -/
def holeW (i : TI) (h : List Blk) (u : V) (K : V → Prop) : Prop :=
  match i.kind, u with
  | .sl _, .d y => holeV h y K
  | _, u => K u
def loadV (tt : TT) (t : Nat) (v : V) (h : List Blk) (K : V → Prop) : Prop :=
  match tt t with
  | none => False
  | some i => match v with
    | .pX x => bif Nat.beq x.size i.size && (x.agg == i.agg) then K (.d x) else False
    | .pB b p off => bif Nat.ble off 1000000 then (match h[b]? with
      | some (.box c) => (match c.sub p 0 with
        | some (u, o) => bif Nat.beq o off && Nat.beq u.size i.size && (u.isAgg == i.agg) then holeW i h u K else False
        | none => False)
      | _ => False) else False
    | .pL b k p off => match h[b]? with
      | some (.arr _ xs dp) => EoW k xs fun y => (match y.sub p 0 with
        | some (u, o) => bif Nat.beq o off && Nat.beq u.size i.size && (u.agg == i.agg) && (u.flat || !dp) then holeV h u K else False
        | none => False)
      | _ => False
    | _ => False
def fieldV (tt : TT) (s : Nat) (x : V) (f : Nat) (K : V → Prop) : Prop :=
  match tt s with
  | some { kind := .strct fs, .. } => match fs[f]? with
    | some (off, ft) => match tt ft with
      | some i => bif Nat.beq i.size 0 then False else (match x with
        | .pX (.st ds) => match fldD ds f 0 with
          | some (u, o) => bif Nat.beq o off && Nat.beq u.size i.size then K (.pX u) else False
          | none => False
        | .pB b p o => bif Nat.ble (o + off) 1000000 then K (.pB b (p ++ [f]) (o + off)) else False
        | .pL b k p o => K (.pL b k (p ++ [f]) (o + off))
        | _ => False)
      | none => False
    | none => False
  | _ => False
def indexV (tt : TT) (t : Nat) (x i : V) (h : List Blk) (K : V → Prop) : Prop :=
  match tt t, i with
  | some { kind := .sl e, .. }, .d (.int _ i) => match tt e with
    | some ie => match x with
      | .own b off len => bif Nat.beq (nOf h b) ie.size then (IoW i len fun k => K (.pL b (k + off) [] 0)) else False
      | .d (.lst xs) => IxW i xs fun y => (bif Nat.beq y.size ie.size then K (.pX y) else False)
      | _ => False
    | none => False
  | some { kind := .ar n e, .. }, .d (.int _ i) => match tt e with
    | some ie => match x with
      | .pL b 0 [] 0 => bif Nat.beq (nOf h b) ie.size then (IoW i n fun k => K (.pL b k [] 0)) else False
      | .pX (.st ds) => SzW ie.size ds (EqW ds.length n (IxW i ds fun y => K (.pX y)))
      | _ => False
    | none => False
  | _, _ => False
def charV (tt : TT) (t : Nat) (x i : V) (K : V → Prop) : Prop :=
  match tt t, x, i with
  | some { kind := .str, .. }, .d (.str s), .d (.int _ i) => ChW i s fun c => K (.d (.int .u8 c.toNat))
  | _, _, _ => False
def sliceV (tt : TT) (t : Nat) (x : V) (lo hi : Option V) (h : List Blk) (K : V → Prop) : Prop :=
  match tt t, x with
  | some { kind := .str, .. }, .d (.str s) => bndV hi s.size fun r => bndV lo 0 fun l => SlW l r s.size (K (.d (.str (s.extract l r))))
  | some { kind := .sl e, .. }, .own b off len => match tt e with
    | some ie => bif Nat.beq (nOf h b) ie.size then bndV hi len fun r => bndV lo 0 fun l => SlW l r len (K (.own b (l + off) (r - l))) else False
    | none => False
  | some { kind := .ar n e, .. }, .pL b 0 [] 0 => match tt e, h[b]? with
    | some ie, some (.arr n' xs _) => bif Nat.beq n' ie.size && Nat.ble n 65536 then EqW xs.length n (bndV hi n fun r => bndV lo 0 fun l => SlW l r n (K (.own b l (r - l)))) else False
    | _, _ => False
  | some { kind := .sl e, .. }, .d (.lst xs) => match tt e with
    | some ie => bndV hi xs.length fun r => bndV lo 0 fun l => SlW l r xs.length (SzW ie.size xs (K (.d (.lst ((xs.drop l).take (r - l))))))
    | none => False
  | some { kind := .sl e, .. }, .nils => match tt e with
    | some _ => bndV hi 0 fun r => bndV lo 0 fun l => SlW l r 0 (K .nils)
    | none => False
  | _, _ => False
/-- the string of a row of bytes -/
def bytesV (x : V) (h : List Blk) (K : ByteArray → Prop) : Prop :=
  match x with
  | .nils => K .empty
  | .d (.lst xs) => StW xs K
  | .own b off len => match h[b]? with
    | some (.arr 1 xs _) => SlW off (off + len) xs.length (StW ((xs.drop off).take len) K)
    | _ => False
  | _ => False
/-- values that a closure may hold -/
def capsOK : List V → Bool
  | [] => true
  | v :: vs => v.okc && !v.isAgg && capsOK vs
def oneOf (vs : List V) : Option V :=
  match vs with
  | [v] => some v
  | _ => none

/-- the larger or the smaller of two whole numbers -/
def mxV (mx : Bool) (x y : V) (K : V → Prop) : Prop :=
  match x, y with
  | .d (.int k a), .d (.int k' b) => bif k == k' then (bif mx then K (.d (.int k (max a b))) else K (.d (.int k (min a b)))) else False
  | _, _ => False
/-! ### maps -/
def keyE : D → D → Bool
  | .int _ a, .int _ b => a == b
  | .str a, .str b => a == b
  | _, _ => false
/-- the value at a key -/
def lkD : List (D × D) → D → Option D
  | [], _ => none
  | (k, v) :: es, q => bif keyE q k then some v else lkD es q
/-- the map with a value at a key -/
def updD : List (D × D) → D → D → List (D × D)
  | [], q, z => [(q, z)]
  | (k, v) :: es, q, z => bif keyE q k then (q, z) :: es else (k, v) :: updD es q z
/-- a look into a map: the value found, or none -/
structure LkW (es : List (D × D)) (q : D) (A : D → Prop) (B : Prop) : Prop where
  ex : (∀ v, lkD es q = some v → A v) ∧ (lkD es q = none → B)
def okV (ok : Bool) (v : V) (b : Bool) : V := bif ok then .tup [v, .d (.bool b)] else v
/-- the kind of a map's keys -/
def kkV (tt : TT) (kt : Nat) : Option (Option IntKind) :=
  match tt kt with
  | some { kind := .int k, .. } => some (some k)
  | some { kind := .str, .. } => some none
  | _ => none
def tgE : Option (Option IntKind) → Option IntKind → Bool
  | some (some k), some k' => decide (k = k')
  | some none, none => true
  | _, _ => false
def lkV (tt : TT) (t : Nat) (x i : V) (ok : Bool) (h : List Blk) (K : V → Prop) : Prop :=
  match tt t, x, i with
  | some { kind := .mp kt et, .. }, .pB b _ off, .d q => match tt et, h[b]? with
    | some ie, some (.mp tg es) => bif Nat.beq off 1000000007 && keyK tg q && tgE (kkV tt kt) tg then LkW es q (fun v => K (okV ok (.d v) true)) (K (okV ok ie.zero false)) else False
    | _, _ => False
  | _, _, _ => False
/-- what only reckons and reads -/
def isQuiet (o : Oper) : Bool :=
  match o.op with
  | .move _ => true
  | .assign _ => true
  | .pick _ _ _ => true
  | .load _ _ => true
  | .nilCheck _ => true
  | .fieldAddr _ _ _ => true
  | .indexAddr _ _ _ => true
  | .index _ _ _ => true
  | .slice _ _ _ _ _ => true
  | .binOp _ _ _ _ _ => true
  | .unOp _ _ _ => true
  | .convert _ _ _ => true
  | .extract _ _ => true
  | .makeFunc _ _ _ => true
  | .lookup _ _ _ _ => true
  | .call { callee := .builtin .len, .. } => true
  | .call { callee := .builtin .cap, .. } => true
  | .call { callee := .builtin .max, .. } => true
  | .call { callee := .builtin .min, .. } => true
  | _ => false
def quietV (tt : TT) (o : Oper) (e : Env) (h : List Blk) (K : V → Prop) : Prop :=
  match o.op with
  | .move x => K (ev e x)
  | .assign x => K (ev e x)
  | .pick c a b => match ev e c with
    | .d (.bool q) => BIf q (K (ev e a)) (K (ev e b))
    | _ => False
  | .load t a => loadV tt t (ev e a) h K
  | .nilCheck x => match ev e x with
    | .pB b p o => bif Nat.ble o 1000000 then K (.pB b p o) else False
    | .pL b i p o => K (.pL b i p o)
    | .pX y => K (.pX y)
    | _ => False
  | .fieldAddr s x f => fieldV tt s (ev e x) f K
  | .indexAddr t x i => indexV tt t (ev e x) (ev e i) h K
  | .index t x i => charV tt t (ev e x) (ev e i) K
  | .slice t x lo hi none => sliceV tt t (ev e x) (lo.map (ev e)) (hi.map (ev e)) h K
  | .binOp op t x y _ => binV tt op t (ev e x) (ev e y) K
  | .unOp op _ x => unV op (ev e x) K
  | .convert s d x => match tt s with
    | some { kind := .sl u, .. } => match tt d, tt u with
      | some { kind := .str, .. }, some { kind := .int .u8, .. } => bytesV (ev e x) h fun s => K (.d (.str s))
      | _, _ => False
    | some _ => convV tt d (ev e x) K
    | none => False
  | .extract x i => match ev e x with
    | .tup vs => match vs[i]? with
      | some v => K v
      | none => False
    | _ => False
  | .makeFunc f ⟨[]⟩ ⟨caps⟩ => bif capsOK (evs e caps) then K (.fn f (evs e caps)) else False
  | .lookup t x i ok => lkV tt t (ev e x) (ev e i) ok h K
  | .call { callee := .builtin .len, args := ⟨[x]⟩, argTypes := ⟨t :: _⟩ } => lenV tt t (ev e x) K
  | .call { callee := .builtin .cap, args := ⟨[x]⟩, argTypes := ⟨t :: _⟩ } => capV tt t (ev e x) K
  | .call { callee := .builtin .max, args := ⟨[x, y]⟩, .. } => mxV true (ev e x) (ev e y) K
  | .call { callee := .builtin .min, args := ⟨[x, y]⟩, .. } => mxV false (ev e x) (ev e y) K
  | _ => False
end Go.Proofs.Ytdeafbgnbgihgaa
