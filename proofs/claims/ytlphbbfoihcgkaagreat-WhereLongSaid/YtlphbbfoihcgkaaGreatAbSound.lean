/- Part of the proof over the seat YtlphbbfoihcgkaaGreat: AbSound. No conditions of its own. -/
import Derived.Test.YtlphbbfoihcgkaaGreatAbFn
import Derived.Test.YtlphbbfoihcgkaaGreatAbDraw6
namespace Go.Ab
variable {P : Program} {E : Env}

/-- What the abstract run answers is what the call answers. -/
theorem ab_sound (hmix : P.follows .mixedOrders = true) (hT : TyOk P E.ty) (hF : FnsOk P E.fn) (hP : PrimsOk P E.prim) (rounds n : Nat) : CallOk P (evFn E rounds n) :=
  fn_sound hT hF hP (fun _ hC => draw_sound hmix hT hC) rounds n

end Go.Ab
