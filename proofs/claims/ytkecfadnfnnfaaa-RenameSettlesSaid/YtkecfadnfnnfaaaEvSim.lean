/- Words for walking through the evaluator with symbolic values: its forcing words undone. -/
import Derived.Test.YtkecfadnfnnfaaaEvL
set_option linter.unusedVariables false
set_option linter.unusedSimpArgs false
noncomputable section
namespace Go.Ev

/-- The body of the loop in a block. -/
def loopIn (id : Nat) : Nat → Code → Option Code
  | blk, .seq a b => match loopIn id blk a with | some c => some c | none => loopIn id blk b
  | blk, .cond _ a b => match loopIn id blk a with | some c => some c | none => loopIn id blk b
  | blk, .block k a => loopIn id k a
  | blk, .loop b => match Nat.beq blk id with | true => some b | false => loopIn id blk b
  | _, _ => none
def loopOf (F : Func) (id : Nat) : Code := match F.body with | some b => (loopIn id 0 b).getD .skip | none => .skip
def bodyOf (F : Func) : Code := F.body.getD .skip

theorem beq_tt : (true == true) = true := rfl
theorem beq_tf : (true == false) = false := rfl
theorem beq_ft : (false == true) = false := rfl
theorem beq_ff : (false == false) = true := rfl
theorem getD_one (a d : Nat) : (#[a] : Array Nat).getD 0 d = a := rfl
theorem getD_two0 (a b d : Nat) : (#[a, b] : Array Nat).getD 0 d = a := rfl
theorem getD_two1 (a b d : Nat) : (#[a, b] : Array Nat).getD 1 d = b := rfl
theorem size_one (a : Nat) : (#[a] : Array Nat).size = 1 := rfl
theorem size_two (a b : Nat) : (#[a, b] : Array Nat).size = 2 := rfl
theorem tb_eq (m n : Nat) : tb m n = decide ((m >>> n) &&& 1 = 1) := by
  unfold tb
  rw [beq_eq']
  rfl
theorem atIdx_nat {k len : Nat} (h : k < len) : atIdx (k : Int) len = some k := by
  unfold atIdx
  rw [leI_eq, ltI_eq]
  have h1 : (0 : Int) ≤ (k : Int) := by omega
  have h2 : (k : Int) < (len : Int) := by omega
  simp [h1, h2]
theorem wr_succ {k : Nat} (h : k < 4611686018427387904) : wr .i64 ((k : Int) + 1) = ((k + 1 : Nat) : Int) := by
  rw [wr_eq, IntKind.wrap_i64]; omega
end Go.Ev
