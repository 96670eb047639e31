/- Symbolic runs of the evaluator: values, states, operations, code. Definitions only, nothing is claimed here. -/
import Derived.Test.YtkecfadnfnnfaaaSyA
import Derived.Test.YtkecfadnfnnfaaaEvB
set_option linter.unusedVariables false
noncomputable section
namespace Go.Sy
open Go Go.Ev

/-- Symbolic values. `tl`: a list of typed elements that is written no more. -/
inductive SV where
  | undef
  | ii (k : IntKind) (e : Ex)
  | bb (e : Ex)
  | ss (e : Ex)
  | tl (t : Ty) (e : Ex)
  | nilp
  | ptr (b : Nat) (i : Ex) (o : Nat)
  | iptr (cs : List SV)
  | nils
  | emp
  | sl (b : Nat) (off len : Ex)
  | nilm
  | map (b : Nat)
  | nilf
  | fn (f : Nat) (caps : List SV)
  | nili
  | iface (t : Nat) (v : SV)
  | agg (cs : List SV)
  | tup (vs : List SV)
  deriving Inhabited
mutual
def SV.beq : SV → SV → Bool
  | .undef, .undef => true
  | .ii k a, .ii j b => kEq k j && Ex.beq a b
  | .bb a, .bb b => Ex.beq a b
  | .ss a, .ss b => Ex.beq a b
  | .tl t a, .tl u b => Ty.beq t u && Ex.beq a b
  | .nilp, .nilp => true
  | .ptr a b c, .ptr x y z => Nat.beq a x && (Ex.beq b y && Nat.beq c z)
  | .iptr a, .iptr b => SV.beqL a b
  | .nils, .nils => true
  | .emp, .emp => true
  | .sl a b c, .sl x y z => Nat.beq a x && (Ex.beq b y && Ex.beq c z)
  | .nilm, .nilm => true
  | .map a, .map b => Nat.beq a b
  | .nilf, .nilf => true
  | .fn f a, .fn g b => Nat.beq f g && SV.beqL a b
  | .nili, .nili => true
  | .iface t a, .iface u b => Nat.beq t u && SV.beq a b
  | .agg a, .agg b => SV.beqL a b
  | .tup a, .tup b => SV.beqL a b
  | _, _ => false
def SV.beqL : List SV → List SV → Bool
  | [], [] => true
  | a :: l, b :: m => SV.beq a b && SV.beqL l m
  | _, _ => false
end
inductive SB where
  | rows (z : Nat) (t : Ty) (e : Ex)
  | box (z : Nat) (tg : Option Ty) (es : List (List SV))
  | ro (z : Nat) (t : Ty) (e : Ex)
  | map (tk tv : Ty) (e : Ex)
  | dead
  deriving Inhabited
def beqRows : List (List SV) → List (List SV) → Bool
  | [], [] => true
  | a :: l, b :: m => SV.beqL a b && beqRows l m
  | _, _ => false
def tgEq : Option Ty → Option Ty → Bool
  | some a, some b => Ty.beq a b
  | none, none => true
  | _, _ => false
def SB.beq : SB → SB → Bool
  | .rows z t e, .rows z' t' e' => Nat.beq z z' && (Ty.beq t t' && Ex.beq e e')
  | .box z tg es, .box z' tg' es' => Nat.beq z z' && (tgEq tg tg' && beqRows es es')
  | .ro z t e, .ro z' t' e' => Nat.beq z z' && (Ty.beq t t' && Ex.beq e e')
  | .map a b e, .map a' b' e' => Ty.beq a a' && (Ty.beq b b' && Ex.beq e e')
  | .dead, .dead => true
  | _, _ => false
abbrev SH := List SB
abbrev SF := List (Nat × SV)
def beqH : SH → SH → Bool
  | [], [] => true
  | a :: l, b :: m => SB.beq a b && beqH l m
  | _, _ => false
def beqF : SF → SF → Bool
  | [], [] => true
  | a :: l, b :: m => Nat.beq a.1 b.1 && (SV.beq a.2 b.2 && beqF l m)
  | _, _ => false
/-- What is known on the way. -/
inductive Fact where
  | cond (e : Ex) (b : Bool)
  | idx (t : Ty) (k : IntKind) (l i x : Ex)
  | call (f : Nat) (args : List Ex) (j n len : Nat)
structure SS where
  fr : SF
  H : SH
  nx : Nat
  fs : List Fact
  deriving Inhabited

/-! ### Every variable is below n -/
mutual
def SV.bnd (n : Nat) : SV → Bool
  | .ii _ e => e.bnd n
  | .bb e => e.bnd n
  | .ss e => e.bnd n
  | .tl _ e => e.bnd n
  | .ptr _ i _ => i.bnd n
  | .iptr cs => SV.bndL n cs
  | .sl _ o l => o.bnd n && l.bnd n
  | .fn _ cs => SV.bndL n cs
  | .iface _ v => v.bnd n
  | .agg cs => SV.bndL n cs
  | .tup cs => SV.bndL n cs
  | _ => true
def SV.bndL (n : Nat) : List SV → Bool
  | [] => true
  | v :: l => v.bnd n && SV.bndL n l
end
def SB.bnd (n : Nat) : SB → Bool
  | .rows _ _ e => e.bnd n
  | .box _ _ es => es.all (SV.bndL n)
  | .ro _ _ e => e.bnd n
  | .map _ _ e => e.bnd n
  | .dead => true
def Fact.bnd (n : Nat) : Fact → Bool
  | .cond e _ => e.bnd n
  | .idx _ _ l i x => l.bnd n && (i.bnd n && x.bnd n)
  | .call _ args _ k len => Nat.ble (k + len) n && args.all (Ex.bnd n)
def bndF (n : Nat) (fr : SF) : Bool := fr.all fun p => p.2.bnd n
def bndH (n : Nat) (H : SH) : Bool := H.all (SB.bnd n)

/-! ### Typed cells -/
/-- The cells of a typed value. -/
def cellsOf : Ty → Ex → List SV
  | .int k, e => [.ii k e]
  | .bool, e => [.bb e]
  | .str, e => [.ss e]
  | .lst u, e => [.tl u e]
  | .pair a b, e => cellsOf a (mk1 (.fst b) e) ++ cellsOf b (mk1 (.snd a) e)
  | .unit, _ => []
  | .nat, _ => [.undef]
/-- A typed value of its cells, and what cells are left. -/
def reify : Ty → List SV → Option (Ex × List SV)
  | .int k, cs => match cs with | .ii j e :: r => (match kEq k j with | true => some (e, r) | false => none) | _ => none
  | .bool, cs => match cs with | .bb e :: r => some (e, r) | _ => none
  | .str, cs => match cs with | .ss e :: r => some (e, r) | _ => none
  | .lst u, cs => match cs with | .tl t e :: r => (match Ty.beq u t with | true => some (e, r) | false => match e with | .nl => some (.nl, r) | _ => none) | _ => none
  | .pair a b, cs => match reify a cs with
    | none => none
    | some (x, r) => match reify b r with
      | none => none
      | some (y, r) => some (mkPair a b x y, r)
  | .unit, cs => some (.un, cs)
  | .nat, _ => none
def reifyAll (t : Ty) (cs : List SV) : Option Ex := match reify t cs with | some (e, []) => some e | _ => none
/-- A typed value as a value. -/
def sval (t : Ty) (e : Ex) : SV := match t with
  | .pair _ _ => .agg (cellsOf t e)
  | .unit => .agg []
  | .int k => .ii k e
  | .bool => .bb e
  | .str => .ss e
  | .lst u => .tl u e
  | .nat => .undef
def SV.cells : SV → List SV
  | .agg cs => cs
  | v => [v]
def SV.isCell : SV → Bool
  | .undef | .agg _ | .tup _ => false
  | _ => true
def isAggT : Ty → Bool | .pair _ _ => true | .unit => true | _ => false
def reifyV (t : Ty) (v : SV) : Option Ex := match isAggT t with
  | true => match v with | .agg cs => reifyAll t cs | _ => none
  | false => match v with | .agg _ => none | v => reifyAll t [v]

/-! ### Constants -/
def ofAV : AV → Option SV
  | .undef => some .undef
  | .bool b => some (.bb (.bl b))
  | .int k n => some (.ii k (.il n))
  | .str s => some (.ss (.st s))
  | .nilp => some .nilp
  | .nils => some .nils
  | .emp => some .emp
  | .lst [] => some (.tl .unit .nl)
  | .nilm => some .nilm
  | .nilf => some .nilf
  | .nili => some .nili
  | .fn f [] => some (.fn f [])
  | _ => none
def getF : SF → Nat → SV
  | [], _ => .undef
  | p :: r, t => match Nat.beq p.1 t with | true => p.2 | false => getF r t
def setF : SF → Nat → SV → SF
  | [], d, v => [(d, v)]
  | p :: r, d, v => match Nat.beq p.1 d with | true => (d, v) :: r | false => match Nat.blt d p.1 with | true => (d, v) :: p :: r | false => p :: setF r d v
def siftF (mask : Nat) : SF → SF
  | [] => []
  | p :: r => match tb mask p.1 with | true => p :: siftF mask r | false => siftF mask r
def onlyF (mask : Nat) (fr : SF) : SF := match Nat.beq mask 0 with | true => fr | false => siftF mask fr
def putF (fr : SF) (dst : Option Tmp) (v : SV) : SF := match dst with | some d => setF fr d v | none => fr
def opvS (fr : SF) : Operand → SV
  | .tmp t => getF fr t
  | .const v => (ofAV (ofConst v)).getD .undef
  | .global _ => .undef
  | .func f => .fn f []
def packS (i : TI) (cs : List SV) : Option SV :=
  match i.known with
  | false => none
  | true => match i.isAgg with
    | true => match Nat.ble i.size cs.length with | true => some (.agg (cs.take i.size)) | false => none
    | false => cs.head?
def ofAVs (l : List AV) : Option (List SV) := match l with | [] => some [] | a :: l => match ofAV a, ofAVs l with | some v, some vs => some (v :: vs) | _, _ => none
/-- A struct's type out of those of its fields. -/
def fieldsTy (f : TypeId → Option Ty) : List (Nat × TypeId) → Option Ty
  | [] => some .unit
  | p :: l => match f p.2 with
    | none => none
    | some u => match l with
      | [] => some (.pair u .unit)
      | [q] => match f q.2 with | some w => some (.pair u w) | none => none
      | _ :: _ :: _ => match fieldsTy f l with | some w => some (.pair u w) | none => none
/-- An element's type. -/
def tyN (c : Ctx) : Nat → TypeId → Option Ty
  | 0, _ => none
  | n + 1, t => match (c.ty t).d with
    | .int k => some (.int k)
    | .bool => some .bool
    | .str => some .str
    | .slice e => match tyN c n e with | some u => some (.lst u) | none => none
    | .strct fs => fieldsTy (tyN c n) fs
    | _ => none
def tyOf (c : Ctx) (t : TypeId) : Option Ty := match tyN c 10 t with
  | some u => match Nat.beq u.size (c.ty t).size with | true => some u | false => none
  | none => none

/-! ### Ways -/
def lookB (e : Ex) : List Fact → Option Bool
  | [] => none
  | .cond x b :: r => match Ex.beq x e with | true => some b | false => lookB e r
  | _ :: r => lookB e r
def lookI (t : Ty) (k : IntKind) (l i : Ex) : List Fact → Option Ex
  | [] => none
  | .idx u j m a x :: r => match Ty.beq u t && (kEq j k && (Ex.beq a i && Ex.beq m l)) with | true => some x | false => lookI t k l i r
  | _ :: r => lookI t k l i r
def beqEs : List Ex → List Ex → Bool
  | [], [] => true
  | a :: l, b :: m => Ex.beq a b && beqEs l m
  | _, _ => false
def lookC (f : Nat) (args : List Ex) : List Fact → Option (Nat × Nat)
  | [] => none
  | .call g xs j n _ :: r => match Nat.beq g f && beqEs xs args with | true => some (j, n) | false => lookC f args r
  | _ :: r => lookC f args r
def branch {α : Type} (e : Ex) (s : SS) (k : Bool → SS → T α) : T α := match e with
  | .bl b => k b s
  | .o1 .not x => match lookB x s.fs with
    | some b => k (!b) s
    | none => .ite x (k false { s with fs := .cond x true :: s.fs }) (k true { s with fs := .cond x false :: s.fs })
  | e => match lookB e s.fs with
    | some b => k b s
    | none => .ite e (k true { s with fs := .cond e true :: s.fs }) (k false { s with fs := .cond e false :: s.fs })
def guard {α : Type} (e : Ex) (s : SS) (k : SS → T α) : T α := branch e s fun b s => match b with | true => k s | false => .fail
def guards {α : Type} : List Ex → SS → (SS → T α) → T α
  | [], s, k => k s
  | e :: l, s, k => guard e s fun s => guards l s k
def SS.bnd (s : SS) : Bool := bndF s.nx s.fr && (bndH s.nx s.H && s.fs.all (Fact.bnd s.nx))
/-- Element i of list l; `pend`: what else is used behind it. -/
def getI {α : Type} (t : Ty) (k : IntKind) (l i : Ex) (pend : List SV) (s : SS) (K : Ex → SS → T α) : T α := match lookI t k l i s.fs with
  | some x => K x s
  | none => match s.bnd && (SV.bndL s.nx pend && (l.bnd s.nx && i.bnd s.nx)) with
    | true => .get s.nx t k l i (K (.v s.nx) { s with nx := s.nx + 1, fs := .idx t k l i (.v s.nx) :: s.fs })
    | false => .fail
/-- A natural number as an index. -/
def asInt (i : Ex) : IntKind × Ex := match i with
  | .o1 (.toN k) e => (k, e)
  | i => (.i64, mk1 .ofN i)
def getN {α : Type} (t : Ty) (l i : Ex) (pend : List SV) (s : SS) (K : Ex → SS → T α) : T α := getI t (asInt i).1 l (asInt i).2 pend s K
def opt {α β : Type} (o : Option α) (k : α → T β) : T β := match o with | some a => k a | none => .fail
def iff {α : Type} (b : Bool) (k : T α) : T α := match b with | true => k | false => .fail
/-- Sums of conditions. -/
def notE (e : Ex) : Ex := mk1 .not e
def ltE (k : IntKind) (a b : Ex) : Ex := mk2 (.cmp .lss k) a b
def leE (k : IntKind) (a b : Ex) : Ex := notE (mk2 (.cmp .lss k) b a)
def eqE (k : IntKind) (a b : Ex) : Ex := mk2 (.cmp .eql k) a b
def nleE (a b : Ex) : Ex := mk2 .nle a b
def natE (n : Nat) : Ex := .nn n

/-! ### Freezing -/
/-- Does a slice span its block? -/
def isWhole (t : Ty) (e off len : Ex) : Bool := Ex.beq off (natE 0) && Ex.beq len (mk1 (.len t) e)
/-- The elements of a slice, and on which conditions. -/
def rowsS (t : Ty) (H : SH) : SV → Option (Ex × List Ex)
  | .nils => some (.nl, [])
  | .emp => some (.nl, [])
  | .tl u e => match Ty.beq u t with | true => some (e, []) | false => match e with | .nl => some (.nl, []) | _ => none
  | .sl b off len => match H[b]? with
    | some (.rows _ u e) => cut t u e off len
    | some (.ro _ u e) => cut t u e off len
    | _ => none
  | _ => none
where cut (t u : Ty) (e off len : Ex) : Option (Ex × List Ex) := match Ty.beq u t with
  | true => match isWhole t e off len with
    | true => some (e, [])
    | false => some (.o2 .tk len (mk2 .dr off e), [nleE (mk2 .nadd off len) (mk1 (.len t) e)])
  | false => none
def typeOfBlk (H : SH) (b : Nat) : Option Ty := match H[b]? with | some (.rows _ u _) => some u | some (.ro _ u _) => some u | _ => none
def freezeL (f : SV → Option (SV × List Ex)) : List SV → Option (List SV × List Ex)
  | [] => some ([], [])
  | v :: l => match f v with
    | none => none
    | some (v, g) => match freezeL f l with | some (l, h) => some (v :: l, g ++ h) | none => none
def freezeE (H : SH) : Nat → SV → Option (SV × List Ex)
  | 0, _ => none
  | n + 1, v => match v with
    | .sl b off len => match typeOfBlk H b with
      | some t => match rowsS t H (.sl b off len) with | some (e, g) => some (.tl t e, g) | none => none
      | none => none
    | .ptr .. | .map _ | .undef | .tup _ => none
    | .fn f caps => match caps with | [] => some (.fn f [], []) | _ :: _ => none
    | .iface t v => match freezeE H n v with | some (v, g) => some (.iface t v, g) | none => none
    | .agg cs => match freezeL (freezeE H n) cs with | some (cs, g) => some (.agg cs, g) | none => none
    | .nils => some (.tl .unit .nl, [])
    | .emp => some (.tl .unit .nl, [])
    | v => some (v, [])
def frozenInS : Nat → SV → List Nat
  | 0, _ => []
  | n + 1, v => match v with
    | .sl b _ _ => [b]
    | .iface _ v => frozenInS n v
    | .agg cs => cs.flatMap (frozenInS n)
    | _ => []
def shutS (H : SH) (b : Nat) : Option SH := match H[b]? with
  | some (.rows z t e) => some (H.set b (.ro z t e))
  | some (.ro _ _ _) => some H
  | _ => none
def shutAllS : List Nat → SH → Option SH
  | [], H => some H
  | b :: l, H => match shutS H b with | some H => shutAllS l H | none => none
/-- Freezing for good. -/
def freezeT {α : Type} (v : SV) (s : SS) (k : SV → SS → T α) : T α :=
  opt (freezeE s.H 12 v) fun (x, g) => guards g s fun s => opt (shutAllS (frozenInS 12 v) s.H) fun H => k x { s with H := H }
def flatS : Nat → SV → Bool
  | 0, _ => false
  | n + 1, v => match v with
    | .bb _ | .ii _ _ | .ss _ | .nilp | .nils | .emp | .nilm | .nilf | .nili | .fn _ [] => true
    | .iface _ v => flatS n v
    | .agg cs => cs.all (flatS n)
    | .tup cs => cs.all (flatS n)
    | _ => false

/-! ### Renumbering -/
def renS (σ : Nat → Nat) : Nat → SV → SV
  | 0, _ => .undef
  | n + 1, v => match v with
    | .ptr b i o => .ptr (σ b) i o
    | .sl b off len => .sl (σ b) off len
    | .map b => .map (σ b)
    | .fn f caps => match caps with | [] => .fn f [] | _ :: _ => .fn f (caps.map (renS σ n))
    | .iface t v => .iface t (renS σ n v)
    | .agg cs => .agg (cs.map (renS σ n))
    | .tup cs => .tup (cs.map (renS σ n))
    | v => v
def refsS : Nat → SV → List Nat
  | 0, _ => []
  | n + 1, v => match v with
    | .ptr b _ _ => [b]
    | .sl b _ _ => [b]
    | .map b => [b]
    | .fn _ caps => match caps with | [] => [] | _ :: _ => caps.flatMap (refsS n)
    | .iface _ v => refsS n v
    | .agg cs => cs.flatMap (refsS n)
    | .tup cs => cs.flatMap (refsS n)
    | _ => []
def SB.refs : SB → List Nat
  | .box _ _ es => es.flatMap fun r => r.flatMap (refsS 8)
  | _ => []
def blkS (H : SH) (b : Nat) : SB := match H[b]? with | some k => k | none => .dead
def visitS (H : SH) : Nat → List Nat → List Nat → Option (List Nat)
  | 0, _, _ => none
  | _ + 1, [], seen => some seen
  | n + 1, b :: todo, seen => match isIn b seen with
    | true => visitS H n todo seen
    | false => visitS H n ((blkS H b).refs ++ todo) (b :: seen)
def reachS (m : Nat) (vs : List SV) (H : SH) : Option (List Nat) :=
  match visitS H 100000 ((downFrom m).reverse.flatMap (fun b => (blkS H b).refs) ++ vs.flatMap (refsS 8)) (downFrom m) with
  | none => none
  | some seen => some seen.reverse
def SB.ren (σ : Nat → Nat) : SB → SB
  | .box z tg es => .box z tg (es.map fun r => r.map (renS σ 8))
  | b => b
def renF (σ : Nat → Nat) (fr : SF) : SF := fr.map fun p => (p.1, renS σ 8 p.2)
def pickBlks (σ : Nat → Nat) (H : SH) (l : List Nat) : SH := l.map fun b => (blkS H b).ren σ
def canonS (m : Nat) (s : SS) : Option SS := match reachS m (s.fr.map (·.2)) s.H with
  | none => none
  | some seen => some { s with fr := renF (fun b => indexIn b seen 0) s.fr, H := pickBlks (fun b => indexIn b seen 0) s.H seen }
def nestL (c : Ctx) : List Nat → List SV → SH → Option (List SV × SH)
  | z :: zs, v :: vs, H => match z with
    | 0 => match nestL c zs vs H with | some (vs, H) => some (v :: vs, H) | none => none
    | z + 1 => match isNil v with
      | true => match tyOf c z with
        | some t => match nestL c zs vs (H ++ [.rows (c.ty z).size t .nl]) with
          | some (vs, H') => some (.sl H.length (natE 0) (natE 0) :: vs, H')
          | none => none
        | none => none
      | false => match nestL c zs vs H with | some (vs, H) => some (v :: vs, H) | none => none
  | _, vs, H => some (vs, H)
where isNil : SV → Bool | .nils => true | .emp => true | _ => false
def oneOfS (d : SV) : List SV → SV | [v] => v | _ => d
def nestV (c : Ctx) (zs : List Nat) (v : SV) (H : SH) : Option (SV × SH) := match zs with
  | [] => some (v, H)
  | zs => match v with
    | .agg cs => match nestL c zs cs H with | some (cs, H) => some (.agg cs, H) | none => none
    | v => match nestL c zs [v] H with | some (cs, H) => some (oneOfS v cs, H) | none => none
def nestF (c : Ctx) (nz : Nat → List Nat) : SF → SH → Option (SF × SH)
  | [], H => some ([], H)
  | p :: r, H => match nestV c (nz p.1) p.2 H with
    | none => none
    | some (v, H) => match nestF c nz r H with
      | none => none
      | some (r, H) => some ((p.1, v) :: r, H)
def normS (c : Ctx) (nz : Nat → List Nat) (mask m : Nat) (s : SS) : Option SS := match nestF c nz (onlyF mask s.fr) s.H with
  | none => none
  | some (fr, H) => canonS m { s with fr := fr, H := H }
def mvFromS (keep : List Nat) : Nat → SH → List Nat
  | _, [] => []
  | i, k :: r => match k with
    | .rows .. => match isIn i keep with | true => mvFromS keep (i + 1) r | false => i :: mvFromS keep (i + 1) r
    | _ => mvFromS keep (i + 1) r
def mvBlksS (σ : Nat → Nat) (mv : List Nat) : Nat → SH → SH
  | _, [] => []
  | i, x :: r => (match isIn i mv with | true => .dead | false => x.ren σ) :: mvBlksS σ mv (i + 1) r
def mvHeapS (args : List SV) (H : SH) : SH :=
  let mv := mvFromS (args.flatMap (refsS 8)) 0 H
  mvBlksS (mvNo H.length mv) mv 0 H ++ mv.map (blkS H)
end Go.Sy
