/- Part of the proof over the seat YtlphbbfoihcgkaaGreat: W5. No conditions of its own. -/
import Derived.Test.YtlphbbfoihcgkaaGreatW4
namespace Go.Proofs.YtlphbbfoihcgkaaGreat
open Go.Ab
set_option linter.unusedSimpArgs false
set_option maxRecDepth 100000 in
theorem all_big (r n : Nat) (next : Int) (H0 : Hp) (hg : 10000 < next) : ∃ H', evFn E1 r (n + 2) 14 [.agg (st 2 next)] H0 = some (.nsl, H') := by
  rw [evFn_body n14 f14g]
  suffices hh : ∃ v H', evBody E1 (evFn E1 r (n + 1)) r fi14 [.agg (st 2 next)] H0 = some (v, H') ∧ v = .nsl by
    obtain ⟨v, H', h1, rfl⟩ := hh
    exact ⟨H', h1⟩
  refine body_goes (K := fun v _ => v = .nsl) ?_
  simp only [fi14, bodyOf, Tryz.f14]
  repeat refine Goes.seq ?_
  apply Goes.region
  case h => simp [evOps, wanted, evOp, kindOf, evPL, evA, opnd, putD, Tr.get_put, enter, AV.val, AV.cells, st, ofConst, ofConst1, g31, g27, g2, g3, g22, g36, ty27, ty2, ty3, ty22, ty36, Ab.load, Hp.get_push, Hp.get_put, Ab.part, TI.isAgg, AV.one, hg]; first | exact ⟨rfl, rfl⟩ | rfl
  case hq =>
  repeat refine Goes.seq ?_
  apply Goes.region
  case h => simp [evOps, wanted, evOp, kindOf, evPL, evA, opnd, putD, Tr.get_put, enter, AV.val, AV.cells, st, ofConst, ofConst1, g31, g27, g2, g3, g22, g36, ty27, ty2, ty3, ty22, ty36, Ab.load, Hp.get_push, Hp.get_put, Ab.part, TI.isAgg, AV.one, hg]; first | exact ⟨rfl, rfl⟩ | rfl
  case hq =>
  refine Goes.cond_t (by simp [opnd, Tr.get_put]) ?_
  repeat refine Goes.seq ?_
  apply Goes.region
  case h => simp [evOps, wanted, evOp, kindOf, evPL, evA, opnd, putD, Tr.get_put, enter, AV.val, AV.cells, st, ofConst, ofConst1, g31, g27, g2, g3, g22, g36, ty27, ty2, ty3, ty22, ty36, Ab.load, Hp.get_push, Hp.get_put, Ab.part, TI.isAgg, AV.one, hg]; first | exact ⟨rfl, rfl⟩ | rfl
  case hq =>
  refine Goes.ret ?_
  exact ⟨_, by simp [resultsOf, Tr.get_put]; rfl, rfl⟩
end Go.Proofs.YtlphbbfoihcgkaaGreat
