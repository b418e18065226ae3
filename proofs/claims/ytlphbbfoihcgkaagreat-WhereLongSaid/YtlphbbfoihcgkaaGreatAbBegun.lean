/- Part of the proof over the seat YtlphbbfoihcgkaaGreat: AbBegun. No conditions of its own. -/
import Derived.Test.YtlphbbfoihcgkaaGreatAbSeat
import Derived.Test.YtlphbbfoihcgkaaGreatAbLift
namespace Go.Proofs.YtlphbbfoihcgkaaGreat
open Go.Ab
noncomputable def E : Ab.Env := ⟨tyT, fnT, prT⟩
set_option maxRecDepth 100000 in
theorem callOk (rounds n : Nat) : CallOk Tryz.prog (evFn E rounds n) := ab_sound (E := E) (by kernel_rfl) tyOk fnsOk primsOk rounds n
def isTrue (r : Option (AV × Hp)) : Bool := match r with | some (.bool true, _) => true | _ => false
theorem begun_ev : isTrue (evFn E 1000 60 11 [] Hp.empty) = true := by kernel_rfl
theorem begun_is : ∃ H1, evFn E 1000 60 11 [] Hp.empty = some (.bool true, H1) := by
  have h := begun_ev
  unfold isTrue at h
  split at h
  · rename_i H1 h1; exact ⟨H1, h1⟩
  · cases h
def begunP : Prim := fun args H => match args with | [] => some (.bool true, H) | _ => none
set_option maxRecDepth 100000 in
theorem begunOk : PrimOk Tryz.prog 11 begunP := by
  obtain ⟨H1, h⟩ := begun_is
  exact closed_prim (callOk 1000 60) h rfl
end Go.Proofs.YtlphbbfoihcgkaaGreat
