/- Part of the proof over the seat YtlphbbfoihcgkaaGreat: K1. No conditions of its own. -/
import Derived.Test.YtlphbbfoihcgkaaGreatAbSeat
import Derived.Test.YtlphbbfoihcgkaaGreatAbLift
import Derived.WalkKit
namespace Go.Proofs.YtlphbbfoihcgkaaGreat
open Go.Shelf Go.RowKit Go.Lib
def brokerM (x : Int) : Bool := decide (0 < x) && decide (x ≤ 8)
def makeM (b n : Int) : Int := if brokerM b = true ∧ 1 ≤ n ∧ n < 4294967296 then b * 4294967296 + n else 0
set_option maxHeartbeats 4000000 in
set_option maxRecDepth 100000 in
theorem k74 (x : Int) (w : World) : Calls Tryz.prog 74 #[.int .i64 x] w fun e w' => e = .returned (.bool (brokerM x)) ∧ w' = w := by
  go_enter Tryz.func74, Tryz.ntmps74
  go_wp2
  all_goals (go_ret; simp [brokerM]; try omega)
set_option maxHeartbeats 4000000 in
set_option maxRecDepth 100000 in
theorem k44 (b n : Int) (w : World) : Calls Tryz.prog 44 #[.int .i64 b, .int .i64 n] w fun e w' => e = .returned (.int .i64 (makeM b n)) ∧ w' = w := by
  cases hb : brokerM b with
  | false =>
    go_enter Tryz.func44, Tryz.ntmps44
    go_wp2_with (go_at_call 74; refine (k74 b w).mono ?_; rintro e w' ⟨rfl, rfl⟩; rw [hb])
    all_goals (go_ret; simp [makeM, hb])
  | true =>
    have hb1 : 0 < b ∧ b ≤ 8 := by simpa [brokerM] using hb
    by_cases h1 : 1 ≤ n ∧ n < 4294967296
    · have hm : makeM b n = b * 4294967296 + n := by rw [makeM, if_pos ⟨hb, h1⟩]
      go_enter Tryz.func44, Tryz.ntmps44
      go_wp2_with (go_at_call 74; refine (k74 b w).mono ?_; rintro e w' ⟨rfl, rfl⟩; rw [hb])
      all_goals (go_ret; simp [hm]; try omega)
    · have hm : makeM b n = 0 := by rw [makeM, if_neg (fun h => h1 h.2)]
      go_enter Tryz.func44, Tryz.ntmps44
      go_wp2_with (go_at_call 74; refine (k74 b w).mono ?_; rintro e w' ⟨rfl, rfl⟩; rw [hb])
      all_goals (go_ret; simp [hm]; try omega)
end Go.Proofs.YtlphbbfoihcgkaaGreat
