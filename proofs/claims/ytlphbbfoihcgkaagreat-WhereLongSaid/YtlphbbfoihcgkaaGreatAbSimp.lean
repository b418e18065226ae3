/- Part of the proof over the seat YtlphbbfoihcgkaaGreat: AbSimp. No conditions of its own. -/
import Derived.Test.YtlphbbfoihcgkaaGreatAbGoes
namespace Go.Ab

/-! ### Single operations on values that are not known -/

section
variable (ty : Tr TI) (tk : TK) (k : IntKind) (a b : Int) (x y : List UInt8)
@[simp] theorem binOp_add : Ab.binOp ty tk .add (.int k a) (.int k b) = some (.int k (k.wrap (a + b))) := by cases k <;> rfl
@[simp] theorem binOp_sub : Ab.binOp ty tk .sub (.int k a) (.int k b) = some (.int k (k.wrap (a - b))) := by cases k <;> rfl
@[simp] theorem binOp_mul : Ab.binOp ty tk .mul (.int k a) (.int k b) = some (.int k (k.wrap (a * b))) := by cases k <;> rfl
@[simp] theorem binOp_rem (h : ¬ b = 0) : Ab.binOp ty tk .rem (.int k a) (.int k b) = some (.int k (a.tmod b)) := by cases k <;> simp [Ab.binOp, kEq, intOp, h]
@[simp] theorem binOp_quo (h : ¬ b = 0) : Ab.binOp ty tk .quo (.int k a) (.int k b) = some (.int k (k.wrap (a.tdiv b))) := by cases k <;> simp [Ab.binOp, kEq, intOp, h]
@[simp] theorem binOp_eql : Ab.binOp ty tk .eql (.int k a) (.int k b) = some (.bool (decide (a = b))) := by cases k <;> rfl
@[simp] theorem binOp_neq : Ab.binOp ty tk .neq (.int k a) (.int k b) = some (.bool (!decide (a = b))) := by cases k <;> rfl
@[simp] theorem binOp_lss : Ab.binOp ty tk .lss (.int k a) (.int k b) = some (.bool (decide (a < b))) := by cases k <;> rfl
@[simp] theorem binOp_leq : Ab.binOp ty tk .leq (.int k a) (.int k b) = some (.bool (decide (a ≤ b))) := by cases k <;> rfl
@[simp] theorem binOp_gtr : Ab.binOp ty tk .gtr (.int k a) (.int k b) = some (.bool (decide (b < a))) := by cases k <;> rfl
@[simp] theorem binOp_geq : Ab.binOp ty tk .geq (.int k a) (.int k b) = some (.bool (decide (b ≤ a))) := by cases k <;> rfl
@[simp] theorem unOp_not (b : Bool) : Ab.unOp .not (.bool b) = some (.bool (!b)) := rfl
@[simp] theorem natOf_cast (n : Nat) : natOf (.int k (n : Int)) = some n := rfl
@[simp] theorem natOf_zero : natOf (.int k 0) = some 0 := rfl
@[simp] theorem kEq_self : kEq k k = true := by cases k <;> rfl
end

end Go.Ab
