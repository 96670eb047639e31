/- The evaluator's regions, code, calls and loops: definitions only, nothing is claimed here. -/
import Derived.Test.YtkecfadnfnnfaaaEvA
import Derived.Orders
set_option linter.unusedVariables false
noncomputable section
namespace Go.Ev

/-- Operations that leave every block as it is, whatever the world. -/
def quietOp (c : Ctx) (o : Oper) : Bool :=
  match o.op with
  | .move _ | .assign _ | .pick .. | .build .. | .nilCheck _ | .binOp .. | .unOp .. | .makeInterface .. | .makeFunc .. | .field .. | .index .. | .extract .. | .fieldAddr .. | .indexAddr .. => true
  | .convert _ d _ => match (c.ty d).d with | .int _ | .str => true | _ => false
  | .slice _ _ _ _ none => true
  | .call cl => match cl.callee with
    | .builtin .len => match (c.ty (cl.argTypes.getD 0 0)).d with | .map .. => false | _ => true
    | _ => false
  | _ => false
def isLoad (o : Oper) : Bool := match o.op with | .load .. => true | _ => false
/-- Operations of which the evaluator asks the heap. -/
def asksHeap (o : Oper) : Bool := match o.op with | .load .. | .slice .. | .indexAddr .. => true | _ => false

/-- `tk`: what was taken ahead so far, asks the heap, and may still come later in another order. -/
def planOk (c : Ctx) (ops : Array Oper) (bf : Array Nat) : Nat → Array Bool → List Nat → Plan → Bool
  | 0, _, _, _ => false
  | _ + 1, listed, _, .done => (Region.ready .any ops listed).isEmpty
  | n + 1, listed, tk, .take i p =>
    (match ops[i]? with
      | some o => (quietOp c o || isLoad o) && planOk c ops bf n (listed.setIfInBounds i true) (if asksHeap o then i :: tk else tk) p
      | none => false) && Region.free .any ops listed i && (Region.ready .any ops listed).contains i
  | n + 1, listed, tk, .fork l =>
    !l.isEmpty && (Region.ready .any ops listed == l.map (·.1)) &&
      l.all fun q => (tk.all fun r => q.2.1.contains r || (bf.getD q.1 0).testBit r) && planOk c ops bf n (listed.setIfInBounds q.1 true) (tk.filter q.2.1.contains) q.2.2
def codeOk (c : Ctx) (f : FuncId) : Code → Bool
  | .region id ops true => Region.noSelect ops && planOk c ops (Region.before ops) (ops.size + 1) (Array.replicate ops.size false) [] (c.plan f id)
  | .seq a b => codeOk c f a && codeOk c f b
  | .cond _ a b => codeOk c f a && codeOk c f b
  | .block _ b => codeOk c f b
  | .loop b => codeOk c f b
  | _ => true

/-- A state within a plan: beside it what was asked of the heap ahead of its turn (the operation, the block, the row; no row: the size of the block's rows). -/
structure Tra where
  st : St
  rd : List (Nat × Nat × Option Nat)
def rowAt (H : Heap) (b i : Nat) : Option (List AV) := match H[b]? with
  | some (.rows _ _ es) => es[i]?
  | some (.ro _ es) => es[i]?
  | _ => none
def sameRow (H H' : Heap) (b i : Nat) : Bool := match rowAt H b i, rowAt H' b i with
  | some x, some y => AV.beqL x y
  | _, _ => false
def sameAsked (H H' : Heap) (q : Nat × Nat × Option Nat) : Bool := match q.2.2 with
  | some i => sameRow H H' q.2.1 i
  | none => match rowSize H q.2.1, rowSize H' q.2.1 with | some x, some y => Nat.beq x y | _, _ => false
section
variable (c : Ctx) (rec : Task → Option Res)

def readsOf (k : Nat) (o : Oper) (st : St) : List (Nat × Nat × Option Nat) :=
  match o.op with
  | .load _ a => match opv st.fr a with | .ptr b i _ => [(k, b, some i)] | _ => []
  | .slice _ x _ _ _ => match opv st.fr x with | .sl b _ _ => [(k, b, none)] | _ => []
  | .indexAddr _ x _ => match opv st.fr x with | .sl b _ _ => [(k, b, none)] | _ => []
  | _ => []
def forkStep (n : Nat) (ops : Array Oper) (i : Nat) (w : List Nat) (t : Tra) : Option Tra :=
  match ops[i]? with
  | none => none
  | some o => match evStep c rec n ops o t.st with
    | none => none
    | some st =>
      let rd := t.rd.filter fun q => w.contains q.1
      match rd.all (sameAsked t.st.H st.H) with
      | true => some { st := st, rd := rd }
      | false => none
def sameBlk : Blk → Blk → Bool
  | .rows z p x, .rows z' p' y => Nat.beq z z' && p == p' && AV.beqLL x y
  | .ro z x, .ro z' y => Nat.beq z z' && AV.beqLL x y
  | .map x, .map y => AV.beqL (x.map (·.1)) (y.map (·.1)) && AV.beqL (x.map (·.2)) (y.map (·.2))
  | .dead, .dead => true
  | _, _ => false
def sameBlks : List Blk → List Blk → Bool
  | [], [] => true
  | a :: l, b :: m => sameBlk a b && sameBlks l m
  | _, _ => false
def sameNums : List Nat → List Nat → Bool
  | [], [] => true
  | a :: l, b :: m => Nat.beq a b && sameNums l m
  | _, _ => false
def sameSt (a b : St) : Bool := AV.beqL (a.fr.map (·.2)) (b.fr.map (·.2)) && sameNums (a.fr.map (·.1)) (b.fr.map (·.1)) && sameBlks a.H b.H
def evPlan (m n : Nat) (ops : Array Oper) : Nat → Plan → Tra → Option St
  | 0, _, _ => none
  | _ + 1, .done, t => some t.st
  | k + 1, .take i p, t => match ops[i]? with
    | none => none
    | some o => match wantedAV ops o t.st.fr with
      | none => none
      | some w => match evStep c rec n ops o t.st with
        | none => none
        | some st => evPlan m n ops k p { st := st, rd := match w with | true => readsOf i o t.st ++ t.rd | false => t.rd }
  | k + 1, .fork l, t => match l with
    | [] => none
    | [(i, w, p)] => match forkStep c rec n ops i w t with
      | none => none
      | some t => evPlan m n ops k p t
    | (i, w, p) :: r => match forkStep c rec n ops i w t with
      | none => none
      | some t0 => match evPlan m n ops k p t0 with
        | none => none
        | some t1 => t1.canon m fun c1 => match (r.all fun q => match forkStep c rec n ops q.1 q.2.1 t with
            | none => false
            | some u => match evPlan m n ops k q.2.2 u with
              | none => false
              | some t2 => match t2.canon m fun c2 => some (sameSt c1 c2) with | some true => true | _ => false) with
          | true => some c1
          | false => none
def evDraw (m n : Nat) (ops : Array Oper) (p : Plan) (st : St) : Option St := evPlan c rec m n ops (ops.size + 1) p { st := st, rd := [] }

def evRegion (f m n id : Nat) (ops : Array Oper) (draw : Bool) (st : St) : Option (Ex × St) :=
  match ifB draw (evDraw c rec m n ops (c.plan f id) st) (evList c rec n ops ops.toList st) with
  | none => none
  | some st => fSp (st.fr.only (c.keep f id)) fun fr => some (.norm, { st with fr := fr })
/-- What is done ahead of a region. -/
def evReady (f m id : Nat) (st : St) (k : St → Option (Ex × St)) : Option (Ex × St) := match c.pre f id with
  | 0 => k st
  | mask => st.norm c (c.nilz f) mask m k
def evSeq (a b : St → Option (Ex × St)) (st : St) : Option (Ex × St) := match a st with
  | some (.norm, st) => b st
  | r => r
def evCond (p : AV) (a b : St → Option (Ex × St)) (st : St) : Option (Ex × St) := match p with
  | .bool true => a st
  | .bool false => b st
  | _ => none
def evBlock (id : Nat) (a : St → Option (Ex × St)) (st : St) : Option (Ex × St) := match a st with
  | some (.exit k, st) => match Nat.beq k id with | true => some (.norm, st) | false => some (.exit k, st)
  | r => r
def evLoop (r : Option Res) : Option (Ex × St) := match r with
  | some (.code e st) => some (e, st)
  | _ => none
def evCode (f m n : Nat) (blk : Nat) (co : Code) (st : St) : Option (Ex × St) :=
  Code.rec (motive := fun _ => Nat → St → Option (Ex × St))
    (fun _ st => some (.norm, st))                                        -- skip
    (fun id ops draw _ st => evReady c f m id st fun st => evRegion c rec f m n id ops draw st)        -- region
    (fun _ _ a b blk st => evSeq (a blk) (b blk) st)                      -- seq
    (fun p _ _ a b blk st => evCond (opv st.fr p) (a blk) (b blk) st)     -- cond
    (fun id _ a _ st => evBlock id (a id) st)                             -- block
    (fun b _ blk st => st.norm c (c.nilz f) (c.live f blk) m fun st => evLoop (rec (.loop f blk m b st)))                 -- loop
    (fun _ _ _ _ _ _ _ _ => none)                                         -- rangeFunc
    (fun id _ st => st.norm c (c.nilz f) (c.out f id) m fun st => some (.exit id, st))  -- exit
    (fun _ _ _ _ => none)                                                 -- scope
    (fun _ _ _ => none)                                                   -- label
    (fun _ _ _ => none)                                                   -- goto
    (fun _ st => st.norm c (c.nilz f) (c.res f) m fun st => some (.ret, st))     -- ret
    (fun _ _ _ => none)                                                   -- refuse
    co blk st
section
variable (f m n blk : Nat) (st : St)
theorem evCode_skip : evCode c rec f m n blk .skip st = some (.norm, st) := rfl
theorem evCode_region (id : Nat) (ops : Array Oper) (draw : Bool) : evCode c rec f m n blk (.region id ops draw) st = evReady c f m id st fun st => evRegion c rec f m n id ops draw st := rfl
theorem evCode_seq (a b : Code) : evCode c rec f m n blk (.seq a b) st = evSeq (evCode c rec f m n blk a) (evCode c rec f m n blk b) st := rfl
theorem evCode_cond (p : Operand) (a b : Code) : evCode c rec f m n blk (.cond p a b) st = evCond (opv st.fr p) (evCode c rec f m n blk a) (evCode c rec f m n blk b) st := rfl
theorem evCode_block (id : Nat) (a : Code) : evCode c rec f m n blk (.block id a) st = evBlock id (evCode c rec f m n id a) st := rfl
theorem evCode_loop (b : Code) : evCode c rec f m n blk (.loop b) st = st.norm c (c.nilz f) (c.live f blk) m fun st => evLoop (rec (.loop f blk m b st)) := rfl
theorem evCode_exit (id : Nat) : evCode c rec f m n blk (.exit id) st = st.norm c (c.nilz f) (c.out f id) m fun st => some (.exit id, st) := rfl
theorem evCode_ret : evCode c rec f m n blk .ret st = st.norm c (c.nilz f) (c.res f) m fun st => some (.ret, st) := rfl
end

def resultAV (st : St) : ResultVar → Option AV
  | .tmp t => some (st.fr.get t)
  | .cell a t => loadAV c t st.H (st.fr.get a)
def resultsAV (F : Func) (st : St) : Option AV :=
  match mapM' (resultAV c st) F.results.toList with
  | none => none
  | some [v] => some v
  | some vs => some (.tup vs)
def freezeR (H : Heap) : AV → Option AV
  | .tup vs => match mapM' (freeze H) vs with | some vs => some (.tup vs) | none => none
  | v => freeze H v
def argFr : Nat → List AV → Fr
  | _, [] => []
  | k, v :: l => (k, v) :: argFr (k + 1) l

def mvIf {β : Type} (c : Ctx) (f : FuncId) (args : List AV) (H : Heap) (k : Heap → β) : β := ifB (c.stay f) (k H) (mvHeap args H k)
/-- One step of the evaluator: a call or a loop's round, what is asked of it answered by `rec`. -/
def stepTask : Task → Option Res
  | .pfn f args => match c.fn f with
    | none => none
    | some F => match F.body with
      | none => none
      | some b => match Nat.ble args.length F.ntmps with
        | false => none
        | true => match fSp (argFr 0 args) fun fr => evCode c rec f 0 F.ntmps 0 b { fr := fr, H := [] } with
          | none => none
          | some (.exit _, _) => none
          | some (_, st) => match resultsAV c F st with
            | none => none
            | some v => match freezeR st.H v with
              | none => none
              | some v => some (.val v [])
  | .fn f args H => match c.fn f with
    | none => none
    | some F => match F.body with
      | none => none
      | some b => match Nat.ble args.length F.ntmps with
        | false => none
        | true => match fSp (argFr 0 args) fun fr => fLen H fun m => mvIf c f args H fun H => evCode c rec f m F.ntmps 0 b { fr := fr, H := H } with
          | none => none
          | some (.exit _, _) => none
          | some (_, st) => match resultsAV c F st with
            | none => none
            | some v =>
              ({ fr := [(0, v)], H := st.H } : St).canon H.length fun st1 => hV (st1.fr.get 0) fun v => some (.val v st1.H)
  | .loop f id m b st => match c.fn f with
    | none => none
    | some F =>
      match evCode c rec f m F.ntmps id b st with
      | some (.norm, st) => st.norm c (c.nilz f) (c.live f id) m fun st => rec (.loop f id m b st)
      | some (e, st) => some (.code e st)
      | none => none
end

/-- The evaluator with so many steps at most. -/
def run (c : Ctx) : Nat → Task → Option Res
  | 0, _ => none
  | n + 1, t => stepTask c (run c n) t
end Go.Ev
