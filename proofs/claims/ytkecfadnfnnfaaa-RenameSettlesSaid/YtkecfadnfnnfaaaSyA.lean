/- Symbolic runs of the evaluator: types, expressions and trees; their meaning. Definitions only, nothing is claimed here. -/
import Derived.Test.YtkecfadnfnnfaaaEvA
set_option linter.unusedVariables false
namespace Go.Sy
open Go Go.Ev

inductive Ty where
  | nat
  | int (k : IntKind)
  | bool
  | str
  | unit
  | lst (e : Ty)
  | pair (a b : Ty)
  deriving DecidableEq, Inhabited, Repr
@[reducible] def Ty.D : Ty → Type
  | .nat => Nat
  | .int _ => Int
  | .bool => Bool
  | .str => List UInt8
  | .unit => Unit
  | .lst e => List e.D
  | .pair a b => a.D × b.D
def dflt : (t : Ty) → t.D
  | .nat => (0 : Nat)
  | .int _ => (0 : Int)
  | .bool => false
  | .str => ([] : List UInt8)
  | .unit => ()
  | .lst e => ([] : List e.D)
  | .pair a b => (dflt a, dflt b)
def kEq (a b : IntKind) : Bool := match a, b with
  | .i8, .i8 | .i16, .i16 | .i32, .i32 | .i64, .i64 | .u8, .u8 | .u16, .u16 | .u32, .u32 | .u64, .u64 => true
  | _, _ => false
def Ty.beq : Ty → Ty → Bool
  | .nat, .nat => true
  | .int a, .int b => kEq a b
  | .bool, .bool => true
  | .str, .str => true
  | .unit, .unit => true
  | .lst a, .lst b => Ty.beq a b
  | .pair a b, .pair x y => Ty.beq a x && Ty.beq b y
  | _, _ => false
/-- Cells of a value. -/
def Ty.size : Ty → Nat
  | .unit => 0
  | .pair a b => a.size + b.size
  | _ => 1

/-- What stands for the values of variables. -/
abbrev Env := Nat → (t : Ty) → t.D
def Env.none : Env := fun _ t => dflt t
def Env.set (env : Env) (n : Nat) (t : Ty) (x : t.D) : Env := fun m u =>
  match Nat.beq m n with
  | true => if h : t = u then h ▸ x else env m u
  | false => env m u

/-! ### Expressions -/
inductive O1 where
  | len (u : Ty)
  | slen
  | ofN
  | toN (k : IntKind)
  | unop (o : UnOp) (k : IntKind)
  | not
  | conv (j : IntKind)
  | bytes
  | fst (u : Ty)
  | snd (u : Ty)
  deriving DecidableEq, Inhabited
inductive O2 where
  | arith (o : BinOp) (k : IntKind)
  | shift (o : BinOp) (k j : IntKind)
  | cmp (o : BinOp) (k : IntKind)
  | beq
  | scmp (o : BinOp)
  | cat
  | mk
  | cons
  | app
  | tk
  | dr
  | rep
  | nadd
  | nsub
  | nmul
  | nle
  | and
  deriving DecidableEq, Inhabited
inductive O3 where
  | set
  | ssub
  deriving DecidableEq, Inhabited
inductive Ex where
  | v (n : Nat)
  | il (n : Int)
  | nn (n : Nat)
  | bl (b : Bool)
  | st (s : List UInt8)
  | nl
  | un
  | o1 (o : O1) (a : Ex)
  | o2 (o : O2) (a b : Ex)
  | o3 (o : O3) (a b c : Ex)
  deriving Inhabited
def o1Eq (a b : O1) : Bool := match a, b with
  | .len u, .len w => Ty.beq u w
  | .slen, .slen | .ofN, .ofN | .not, .not | .bytes, .bytes => true
  | .toN a, .toN b => kEq a b
  | .unop o k, .unop p j => decide (o = p) && kEq k j
  | .conv a, .conv b => kEq a b
  | .fst u, .fst w => Ty.beq u w
  | .snd u, .snd w => Ty.beq u w
  | _, _ => false
def o2Eq (a b : O2) : Bool := match a, b with
  | .arith o k, .arith p j => decide (o = p) && kEq k j
  | .shift o k l, .shift p j m => decide (o = p) && (kEq k j && kEq l m)
  | .cmp o k, .cmp p j => decide (o = p) && kEq k j
  | .scmp o, .scmp p => decide (o = p)
  | .beq, .beq | .cat, .cat | .mk, .mk | .cons, .cons | .app, .app | .tk, .tk | .dr, .dr | .rep, .rep | .nadd, .nadd | .nsub, .nsub | .nmul, .nmul | .nle, .nle | .and, .and => true
  | _, _ => false
def o3Eq (a b : O3) : Bool := match a, b with
  | .set, .set | .ssub, .ssub => true
  | _, _ => false
def bytesEq : List UInt8 → List UInt8 → Bool
  | [], [] => true
  | a :: l, b :: m => Nat.beq a.toNat b.toNat && bytesEq l m
  | _, _ => false
def Ex.beq : Ex → Ex → Bool
  | .v a, .v b => Nat.beq a b
  | .il a, .il b => eqI a b
  | .nn a, .nn b => Nat.beq a b
  | .bl a, .bl b => a == b
  | .st a, .st b => bytesEq a b
  | .nl, .nl => true
  | .un, .un => true
  | .o1 o a, .o1 p x => o1Eq o p && Ex.beq a x
  | .o2 o a b, .o2 p x y => o2Eq o p && (Ex.beq a x && Ex.beq b y)
  | .o3 o a b c, .o3 p x y z => o3Eq o p && (Ex.beq a x && (Ex.beq b y && Ex.beq c z))
  | _, _ => false

def unI (o : UnOp) (k : IntKind) (n : Int) : Int := match o with
  | .neg => wr k (0 - n)
  | .xor => (intBits .xor k (if k.signed then -1 else k.max) n).getD 0
  | _ => 0
def arI (o : BinOp) (k : IntKind) (x y : Int) : Int := match o with
  | .add => wr k (x + y)
  | .sub => wr k (x - y)
  | .mul => wr k (x * y)
  | .quo => wr k (x.tdiv y)
  | .rem => x.tmod y
  | o => (intBits o k x y).getD 0
def shI (o : BinOp) (k : IntKind) (x y : Int) : Int := match o with
  | .shl => wr k (x * 2 ^ (min y.toNat k.bits))
  | _ => x.fdiv (2 ^ (min y.toNat k.bits))
def cmI (o : BinOp) (x y : Int) : Bool := match o with
  | .eql => decide (x = y)
  | .neq => !decide (x = y)
  | .lss => decide (x < y)
  | .leq => decide (x ≤ y)
  | .gtr => decide (y < x)
  | .geq => decide (y ≤ x)
  | _ => false
def cmS (o : BinOp) (x y : List UInt8) : Bool := match o with
  | .eql => decide (x = y)
  | .neq => !decide (x = y)
  | .lss => strLess x y
  | .leq => strLess x y || decide (x = y)
  | .gtr => !(strLess x y || decide (x = y))
  | .geq => !strLess x y
  | _ => false
def O1.den (o : O1) (x : (u : Ty) → u.D) (t : Ty) : t.D := match o with
  | .len u => match t with | .nat => (x (.lst u)).length | t => dflt t
  | .slen => match t with | .nat => (x .str).length | t => dflt t
  | .ofN => match t with | .int _ => ((x .nat : Nat) : Int) | t => dflt t
  | .toN k => match t with | .nat => Int.toNat (x (.int k)) | t => dflt t
  | .unop o k => match t with | .int _ => unI o k (x (.int k)) | t => dflt t
  | .not => match t with | .bool => !(x .bool) | t => dflt t
  | .conv j => match t with | .int k => wr k (x (.int j)) | t => dflt t
  | .bytes => match t with | .lst (.int _) => (x .str).map fun b => (b.toNat : Int) | t => dflt t
  | .fst u => (x (.pair t u)).1
  | .snd u => (x (.pair u t)).2
def O2.den (o : O2) (x y : (u : Ty) → u.D) (t : Ty) : t.D := match o with
  | .arith o k => match t with | .int _ => arI o k (x (.int k)) (y (.int k)) | t => dflt t
  | .shift o k j => match t with | .int _ => shI o k (x (.int k)) (y (.int j)) | t => dflt t
  | .cmp o k => match t with | .bool => cmI o (x (.int k)) (y (.int k)) | t => dflt t
  | .beq => match t with | .bool => x .bool == y .bool | t => dflt t
  | .scmp o => match t with | .bool => cmS o (x .str) (y .str) | t => dflt t
  | .cat => match t with | .str => x .str ++ y .str | t => dflt t
  | .mk => match t with | .pair a b => (x a, y b) | t => dflt t
  | .cons => match t with | .lst u => x u :: y (.lst u) | t => dflt t
  | .app => match t with | .lst u => x (.lst u) ++ y (.lst u) | t => dflt t
  | .tk => match t with | .lst u => (y (.lst u)).take (x .nat) | t => dflt t
  | .dr => match t with | .lst u => (y (.lst u)).drop (x .nat) | t => dflt t
  | .rep => match t with | .lst u => List.replicate (x .nat) (y u) | t => dflt t
  | .nadd => match t with | .nat => Nat.add (x .nat) (y .nat) | t => dflt t
  | .nsub => match t with | .nat => Nat.sub (x .nat) (y .nat) | t => dflt t
  | .nmul => match t with | .nat => Nat.mul (x .nat) (y .nat) | t => dflt t
  | .nle => match t with | .bool => decide (x .nat ≤ y .nat) | t => dflt t
  | .and => match t with | .bool => x .bool && y .bool | t => dflt t
def O3.den (o : O3) (x y z : (u : Ty) → u.D) (t : Ty) : t.D := match o with
  | .set => match t with | .lst u => (x (.lst u)).set (y .nat) (z u) | t => dflt t
  | .ssub => match t with | .str => ((x .str).drop (y .nat)).take (z .nat - y .nat) | t => dflt t
def ilDen (n : Int) (t : Ty) : t.D := match t with
  | .int _ => n
  | t => dflt t
def nnDen (n : Nat) (t : Ty) : t.D := match t with
  | .nat => n
  | t => dflt t
def blDen (b : Bool) (t : Ty) : t.D := match t with | .bool => b | t => dflt t
def stDen (s : List UInt8) (t : Ty) : t.D := match t with | .str => s | t => dflt t
def nlDen (t : Ty) : t.D := match t with | .lst u => ([] : List u.D) | t => dflt t
def Ex.den (env : Env) : Ex → (t : Ty) → t.D
  | .v n, t => env n t
  | .il n, t => ilDen n t
  | .nn n, t => nnDen n t
  | .bl b, t => blDen b t
  | .st s, t => stDen s t
  | .nl, t => nlDen t
  | .un, t => dflt t
  | .o1 o a, t => o.den (Ex.den env a) t
  | .o2 o a b, t => o.den (Ex.den env a) (Ex.den env b) t
  | .o3 o a b c, t => o.den (Ex.den env a) (Ex.den env b) (Ex.den env c) t

/-! ### Expressions made simple -/
def cmLit (o : BinOp) (a b : Int) : Option Bool := intCmp o a b
/-- Is a natural number's expression, read as a whole number, a literal? -/
def litLen : Ex → Option Nat
  | .nl => some 0
  | .o2 .cons _ l => match litLen l with | some n => some (n + 1) | none => none
  | _ => none
/-- A list without what was written into it. -/
def stripSet : Ex → Ex
  | .o3 o x y z => match o with | .set => stripSet x | o => .o3 o x y z
  | e => e
def lenE0 (u : Ty) (a : Ex) : Ex := match litLen a with | some n => .nn n | none => .o1 (.len u) a
/-- Expressions that are truth values or nothing. -/
def boolish : Ex → Bool
  | .o2 o _ _ => match o with | .cmp _ _ => true | .beq => true | .scmp _ => true | .nle => true | .and => true | _ => false
  | .o1 o _ => match o with | .not => true | _ => false
  | _ => false
def mk1 (o : O1) (a : Ex) : Ex := match o with
  | .fst u => match a with
    | .o2 .mk x y => x
    | a => .o1 (.fst u) a
  | .snd u => match a with
    | .o2 .mk x y => y
    | a => .o1 (.snd u) a
  | .not => match a with
    | .bl b => .bl (!b)
    | .o1 o x => match o with
      | .not => (match boolish x with | true => x | false => .o1 .not (.o1 .not x))
      | o => .o1 .not (.o1 o x)
    | a => .o1 .not a
  | .len u => lenE0 u (stripSet a)
  | .ofN => match a with
    | .nn n => .il (.ofNat n)
    | a => .o1 .ofN a
  | .toN k => match a with
    | .il n => .nn n.toNat
    | a => .o1 (.toN k) a
  | o => .o1 o a
def mk2 (o : O2) (a b : Ex) : Ex := match o with
  | .cmp o k => match a, b with
    | .il x, .il y => match cmLit o x y with | some r => .bl r | none => .o2 (.cmp o k) a b
    | a, b => .o2 (.cmp o k) a b
  | .arith o k => match a, b with
    | .il x, .il y => match o with
      | .add => .il (wr k (x + y))
      | .sub => .il (wr k (x - y))
      | .mul => .il (wr k (x * y))
      | o => .o2 (.arith o k) a b
    | a, b => .o2 (.arith o k) a b
  | .and => match a, b with
    | .bl true, b => b
    | .bl false, _ => .bl false
    | a, .bl true => a
    | a, b => .o2 .and a b
  | .nadd => match a, b with
    | .nn x, .nn y => .nn (x + y)
    | .nn 0, b => b
    | a, .nn 0 => a
    | a, b => .o2 .nadd a b
  | .nsub => match a, b with
    | .nn x, .nn y => .nn (x - y)
    | a, .nn 0 => a
    | a, b => .o2 .nsub a b
  | .nmul => match a, b with
    | .nn x, .nn y => .nn (x * y)
    | a, b => .o2 .nmul a b
  | .nle => match a, b with
    | .nn x, .nn y => .bl (Nat.ble x y)
    | a, b => .o2 .nle a b
  | .beq => match a, b with
    | .bl true, b => b
    | .bl false, b => mk1 .not b
    | a, .bl true => a
    | a, .bl false => mk1 .not a
    | a, b => .o2 .beq a b
  | .dr => match a, b with
    | .nn 0, b => b
    | a, b => .o2 .dr a b
  | .app => match a, b with
    | .nl, b => b
    | a, .nl => a
    | a, b => .o2 .app a b
  | .scmp o => match a, b with
    | .st x, .st y => .bl (cmS o x y)
    | a, b => .o2 (.scmp o) a b
  | .cat => match a, b with
    | .st x, .st y => .st (x ++ y)
    | .st [], b => b
    | a, .st [] => a
    | a, b => .o2 .cat a b
  | o => .o2 o a b
def mk3 (o : O3) (a b c : Ex) : Ex := .o3 o a b c
/-- A pair; of the two parts of a pair, that pair. -/
def mkPair (ta tb : Ty) (x y : Ex) : Ex := match x, y with
  | .o1 (.fst u) a, .o1 (.snd w) b => match Ty.beq u tb && (Ty.beq w ta && Ex.beq a b) with
    | true => a
    | false => .o2 .mk x y
  | _, _ => .o2 .mk x y
/-- Made simple whatever the type. -/
def mkS (o : O1) (a : Ex) : Ex := match o with
  | .fst u => mk1 (.fst u) a
  | .snd u => mk1 (.snd u) a
  | .len u => mk1 (.len u) a
  | o => .o1 o a
def Ex.subst (σ : Nat → Ex) : Ex → Ex
  | .v n => σ n
  | .il n => .il n
  | .nn n => .nn n
  | .bl b => .bl b
  | .st s => .st s
  | .nl => .nl
  | .un => .un
  | .o1 o a => mkS o (a.subst σ)
  | .o2 o a b => .o2 o (a.subst σ) (b.subst σ)
  | .o3 o a b c => .o3 o (a.subst σ) (b.subst σ) (c.subst σ)
/-- Every variable is below n. -/
def Ex.bnd (n : Nat) : Ex → Bool
  | .v m => Nat.blt m n
  | .o1 _ a => a.bnd n
  | .o2 _ a b => a.bnd n && b.bnd n
  | .o3 _ a b c => a.bnd n && (b.bnd n && c.bnd n)
  | _ => true

/-! ### Products and sums -/
@[reducible] def Pr : List Ty → Type
  | [] => Unit
  | [a] => a.D
  | a :: b :: l => a.D × Pr (b :: l)
@[reducible] def Sm : List (List Ty) → Type
  | [] => Empty
  | [a] => Pr a
  | a :: b :: l => Pr a ⊕ Sm (b :: l)
def mkPr (env : Env) : (ts : List Ty) → List Ex → Pr ts
  | [], _ => ()
  | [a], es => match es with | e :: _ => e.den env a | [] => dflt a
  | a :: b :: l, es => match es with | e :: es => (e.den env a, mkPr env (b :: l) es) | [] => (dflt a, mkPr env (b :: l) [])
def mkSm (env : Env) : (os : List (List Ty)) → Nat → List Ex → Option (Sm os)
  | [], _, _ => none
  | [a], j, es => match j with | 0 => some (mkPr env a es) | _ + 1 => none
  | a :: b :: l, j, es => match j with | 0 => some (.inl (mkPr env a es)) | j + 1 => (mkSm env (b :: l) j es).map .inr
def Env.setP : (ts : List Ty) → Env → Nat → Pr ts → Env
  | [], env, _, _ => env
  | [a], env, n, x => env.set n a x
  | a :: b :: l, env, n, x => Env.setP (b :: l) (env.set n a x.1) (n + 1) x.2

/-! ### Trees -/
inductive T (α : Type) where
  | ret (a : α)
  | fail
  | out (j : Nat) (es : List Ex)
  | tail (f : Nat) (args : List Ex)
  | ite (c : Ex) (x y : T α)
  | get (n : Nat) (t : Ty) (k : IntKind) (l i : Ex) (x : T α)
  | call (f : Nat) (args : List Ex) (n : Nat) (ks : T α)
  | join (os : List (List Ty)) (x : T α) (n : Nat) (ks : T α)
  | alt (k r : T α)
  deriving Inhabited
def T.bind {α β : Type} (f : α → T β) : T α → T β
  | .ret a => f a
  | .fail => .fail
  | .out j es => .out j es
  | .tail g args => .tail g args
  | .ite c x y => .ite c (x.bind f) (y.bind f)
  | .get n t k l i x => .get n t k l i (x.bind f)
  | .call g args n ks => .call g args n (ks.bind f)
  | .join os x n ks => .join os (x.bind fun _ => .fail) n (ks.bind f)
  | .alt k r => .alt (k.bind f) (r.bind f)
def T.mapOut {α β : Type} (f : α → Option (Nat × List Ex)) (x : T α) : T β := x.bind fun a => match f a with | some (j, es) => .out j es | none => .fail
/-- An element of a list. -/
def at' {α : Type} (l : List α) (n : Int) : Option α := (atIdx n l.length).bind fun i => l[i]?
section
variable {α : Type} (P : Nat → List Ty) (O : Nat → List (List Ty)) (m : (f : Nat) → Pr (P f) → Option (Sm (O f)))
mutual
def T.den : T α → (os : List (List Ty)) → Env → Option (Sm os)
  | .ret _, _, _ => none
  | .fail, _, _ => none
  | .out j es, os, env => mkSm env os j es
  | .tail f args, os, env => if h : O f = os then h ▸ m f (mkPr env (P f) args) else none
  | .ite c x y, os, env => bif c.den env .bool then x.den os env else y.den os env
  | .get n t k l i x, os, env => (at' (l.den env (.lst t)) (i.den env (.int k))).bind fun a => x.den os (env.set n t a)
  | .call f args n ks, os, env => (m f (mkPr env (P f) args)).bind fun z => ks.alts (O f) z n os env
  | .join os' x n ks, os, env => (x.den os' env).bind fun z => ks.alts os' z n os env
  | .alt _ _, _, _ => none
def T.alts : T α → (os' : List (List Ty)) → Sm os' → Nat → (os : List (List Ty)) → Env → Option (Sm os)
  | .alt k r, os', z, n, os, env => match os', z with
    | [], _ => none
    | [a], z => k.den os (Env.setP a env n z)
    | a :: b :: l, .inl x => k.den os (Env.setP a env n x)
    | a :: b :: l, .inr y => r.alts (b :: l) y n os env
  | _, _, _, _, _, _ => none
end
end
end Go.Sy
