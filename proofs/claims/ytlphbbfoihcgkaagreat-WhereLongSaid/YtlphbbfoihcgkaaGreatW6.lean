/- Part of the proof over the seat YtlphbbfoihcgkaaGreat: W6. No conditions of its own. -/
import Derived.Test.YtlphbbfoihcgkaaGreatW5
namespace Go.Proofs.YtlphbbfoihcgkaaGreat
open Go.Ab
set_option linter.unusedSimpArgs false
theorem n7 : E1.prim.get 7 = none := by simp only [E1, Tr.get_put]; rfl
theorem n24 (r n : Nat) (H : Hp) : evFn E1 r (n + 1) 24 [.int .i64 2] H = some (newM 2, H) :=
  evFn_prim (p := p24N) (by simp only [E1, Tr.get_put]; rfl) _ _
theorem n11 (r n : Nat) (H : Hp) : evFn E1 r (n + 1) 11 [] H = some (.bool true, H) :=
  evFn_prim (p := begunP) (by simp only [E1, Tr.get_put]; rfl) _ _
theorem f7g : E1.fn.get 7 = some fi7 := by kernel_rfl
theorem g4 : E1.ty.get 4 = some ty4 := by kernel_rfl
set_option maxHeartbeats 1000000 in
set_option maxRecDepth 100000 in
theorem long_true (r n : Nat) (next : Int) (hr : 10001 < r) : ∃ H', evFn E1 r (n + 3) 7 [.int .i64 next] Hp.empty = some (.bool true, H') := by
  rw [evFn_body n7 f7g]
  suffices hh : ∃ v H', evBody E1 (evFn E1 r (n + 2)) r fi7 [.int .i64 next] Hp.empty = some (v, H') ∧ v = .bool true by
    obtain ⟨v, H', h1, rfl⟩ := hh
    exact ⟨H', h1⟩
  refine body_goes (K := fun v _ => v = .bool true) ?_
  simp only [fi7, bodyOf, Tryz.f7]
  repeat refine Goes.seq ?_
  apply Goes.region
  case h => simp [evOps, wanted, evOp, kindOf, evPL, evA, evE, opnd, opnds, putD, Tr.get_put, enter, AV.val, AV.cells, ofConst, ofConst1, g2, g3, g4, g27, g31, ty2, ty3, ty4, ty27, ty31, Ab.load, Ab.store, Hp.get_push, Hp.get_put, Ab.part, TI.isAgg, u8ok, allU8, AV.isU8, overwrite]; first | exact ⟨rfl, rfl⟩ | rfl
  case hq =>
  repeat refine Goes.seq ?_
  apply Goes.region
  case h => simp [evOps, wanted, evOp, kindOf, evPL, evA, evE, opnd, opnds, putD, Tr.get_put, enter, AV.val, AV.cells, ofConst, ofConst1, g2, g3, g4, g27, g31, ty2, ty3, ty4, ty27, ty31, Ab.load, Ab.store, Hp.get_push, Hp.get_put, Ab.part, TI.isAgg, u8ok, allU8, AV.isU8, overwrite, n11]; first | exact ⟨rfl, rfl⟩ | rfl
  case hq =>
  repeat refine Goes.seq ?_
  apply Goes.region
  case h => simp [evOps, wanted, evOp, kindOf, evPL, evA, evE, opnd, opnds, putD, Tr.get_put, enter, AV.val, AV.cells, ofConst, ofConst1, g2, g3, g4, g27, g31, ty2, ty3, ty4, ty27, ty31, Ab.load, Ab.store, Hp.get_push, Hp.get_put, Ab.part, TI.isAgg, u8ok, allU8, AV.isU8, overwrite]; first | exact ⟨rfl, rfl⟩ | rfl
  case hq =>
  repeat refine Goes.seq ?_
  refine Goes.cond_f (by simp [opnd, Tr.get_put]) ?_
  refine Goes.skip ?_
  by_cases hin : 1 ≤ next ∧ next ≤ 4294967296
  · obtain ⟨h1, h2⟩ := hin
    have e1 : ¬ next < 1 := by omega
    have e2 : ¬ 4294967296 < next := by omega
    repeat refine Goes.seq ?_
    apply Goes.region
    case h => simp [evOps, wanted, evOp, kindOf, evPL, evA, evE, opnd, opnds, putD, Tr.get_put, enter, AV.val, AV.cells, ofConst, ofConst1, g2, g3, g4, g27, g31, ty2, ty3, ty4, ty27, ty31, Ab.load, Ab.store, Hp.get_push, Hp.get_put, Ab.part, TI.isAgg, u8ok, allU8, AV.isU8, overwrite, e1, e2]; first | exact ⟨rfl, rfl⟩ | rfl
    case hq =>
    repeat refine Goes.seq ?_
    refine Goes.cond_f (by simp [opnd, Tr.get_put]) ?_
    refine Goes.skip ?_
    repeat refine Goes.seq ?_
    apply Goes.region
    case h => simp [evOps, wanted, evOp, kindOf, evPL, evA, evE, opnd, opnds, putD, Tr.get_put, enter, AV.val, AV.cells, ofConst, ofConst1, g2, g3, g4, g27, g31, ty2, ty3, ty4, ty27, ty31, Ab.load, Ab.store, Hp.get_push, Hp.get_put, Ab.part, TI.isAgg, u8ok, allU8, AV.isU8, overwrite, n24, newM]; first | exact ⟨rfl, rfl⟩ | rfl
    case hq =>
    repeat refine Goes.seq ?_
    apply Goes.region
    case h => simp [evOps, wanted, evOp, kindOf, evPL, evA, evE, opnd, opnds, putD, Tr.get_put, enter, AV.val, AV.cells, ofConst, ofConst1, g2, g3, g4, g27, g31, ty2, ty3, ty4, ty27, ty31, Ab.load, Ab.store, Hp.get_push, Hp.get_put, Ab.part, TI.isAgg, u8ok, allU8, AV.isU8, overwrite]; first | exact ⟨rfl, rfl⟩ | rfl
    case hq =>
    by_cases hb : 10000 < next
    · obtain ⟨H', hall⟩ := all_big r n next (((Hp.empty.push (Blk.cells [AV.int IntKind.i64 0, AV.int IntKind.i64 0, AV.int IntKind.i64 0, AV.int IntKind.i64 0, AV.nsl, AV.nsl, AV.nsl, AV.nsl, AV.nsl])).put Hp.empty.n (Blk.cells [AV.int IntKind.i64 2, AV.int IntKind.i64 1, AV.int IntKind.i64 1, AV.int IntKind.i64 0, AV.nsl, AV.nsl, AV.nsl, AV.nsl, AV.nsl])).put Hp.empty.n (Blk.cells [AV.int IntKind.i64 2, AV.int IntKind.i64 next, AV.int IntKind.i64 1, AV.int IntKind.i64 0, AV.nsl, AV.nsl, AV.nsl, AV.nsl, AV.nsl])) hb
      simp only [st] at hall
      repeat refine Goes.seq ?_
      apply Goes.region
      case h => simp [evOps, wanted, evOp, kindOf, evPL, evA, evE, opnd, opnds, putD, Tr.get_put, enter, AV.val, AV.cells, ofConst, ofConst1, g2, g3, g4, g27, g31, ty2, ty3, ty4, ty27, ty31, Ab.load, Ab.store, Hp.get_push, Hp.get_put, Ab.part, TI.isAgg, u8ok, allU8, AV.isU8, overwrite, hall, builtinPL]; first | exact ⟨rfl, rfl⟩ | rfl
      case hq =>
      repeat refine Goes.seq ?_
      apply Goes.region
      case h => simp [evOps, wanted, evOp, kindOf, evPL, evA, evE, opnd, opnds, putD, Tr.get_put, enter, AV.val, AV.cells, ofConst, ofConst1, g2, g3, g4, g27, g31, ty2, ty3, ty4, ty27, ty31, Ab.load, Ab.store, Hp.get_push, Hp.get_put, Ab.part, TI.isAgg, u8ok, allU8, AV.isU8, overwrite, hb]; first | exact ⟨rfl, rfl⟩ | rfl
      case hq =>
      repeat refine Goes.seq ?_
      refine Goes.cond_t (by simp [opnd, Tr.get_put]) ?_
      repeat refine Goes.seq ?_
      apply Goes.region
      case h => simp [evOps, wanted, evOp, kindOf, evPL, evA, evE, opnd, opnds, putD, Tr.get_put, enter, AV.val, AV.cells, ofConst, ofConst1, g2, g3, g4, g27, g31, ty2, ty3, ty4, ty27, ty31, Ab.load, Ab.store, Hp.get_push, Hp.get_put, Ab.part, TI.isAgg, u8ok, allU8, AV.isU8, overwrite]; first | exact ⟨rfl, rfl⟩ | rfl
      case hq =>
      refine Goes.ret ?_
      exact ⟨_, by simp [resultsOf, Tr.get_put]; rfl, rfl⟩
    · obtain ⟨v, H', hall, hl⟩ := all_nil r n next (((Hp.empty.push (Blk.cells [AV.int IntKind.i64 0, AV.int IntKind.i64 0, AV.int IntKind.i64 0, AV.int IntKind.i64 0, AV.nsl, AV.nsl, AV.nsl, AV.nsl, AV.nsl])).put Hp.empty.n (Blk.cells [AV.int IntKind.i64 2, AV.int IntKind.i64 1, AV.int IntKind.i64 1, AV.int IntKind.i64 0, AV.nsl, AV.nsl, AV.nsl, AV.nsl, AV.nsl])).put Hp.empty.n (Blk.cells [AV.int IntKind.i64 2, AV.int IntKind.i64 next, AV.int IntKind.i64 1, AV.int IntKind.i64 0, AV.nsl, AV.nsl, AV.nsl, AV.nsl, AV.nsl])) h1 (by omega) hr
      simp only [st] at hall
      have hl' : builtinPL H' .len (some (⟨.sl 36, 1, 24, [.nsl]⟩ : TI)) [v] = some (.int .i64 (next - 1)) := hl
      have hw : IntKind.i64.wrap (next - 1) = next - 1 := by rw [IntKind.wrap_i64]; omega
      repeat refine Goes.seq ?_
      apply Goes.region
      case h => simp [evOps, wanted, evOp, kindOf, evPL, evA, evE, opnd, opnds, putD, Tr.get_put, enter, AV.val, AV.cells, ofConst, ofConst1, g2, g3, g4, g27, g31, ty2, ty3, ty4, ty27, ty31, Ab.load, Ab.store, Hp.get_push, Hp.get_put, Ab.part, TI.isAgg, u8ok, allU8, AV.isU8, overwrite, hall, hl']; first | exact ⟨rfl, rfl⟩ | rfl
      case hq =>
      repeat refine Goes.seq ?_
      apply Goes.region
      case h => simp [evOps, wanted, evOp, kindOf, evPL, evA, evE, opnd, opnds, putD, Tr.get_put, enter, AV.val, AV.cells, ofConst, ofConst1, g2, g3, g4, g27, g31, ty2, ty3, ty4, ty27, ty31, Ab.load, Ab.store, Hp.get_push, Hp.get_put, Ab.part, TI.isAgg, u8ok, allU8, AV.isU8, overwrite, hb]; first | exact ⟨rfl, rfl⟩ | rfl
      case hq =>
      repeat refine Goes.seq ?_
      refine Goes.cond_f (by simp [opnd, Tr.get_put]) ?_
      refine Goes.skip ?_
      repeat refine Goes.seq ?_
      apply Goes.region
      case h => simp [evOps, wanted, evOp, kindOf, evPL, evA, evE, opnd, opnds, putD, Tr.get_put, enter, AV.val, AV.cells, ofConst, ofConst1, g2, g3, g4, g27, g31, ty2, ty3, ty4, ty27, ty31, Ab.load, Ab.store, Hp.get_push, Hp.get_put, Ab.part, TI.isAgg, u8ok, allU8, AV.isU8, overwrite, hw]; first | exact ⟨rfl, rfl⟩ | rfl
      case hq =>
      refine Goes.ret ?_
      exact ⟨_, by simp [resultsOf, Tr.get_put]; rfl, rfl⟩
  · by_cases e1 : next < 1
    · skip
      repeat refine Goes.seq ?_
      apply Goes.region
      case h => simp [evOps, wanted, evOp, kindOf, evPL, evA, evE, opnd, opnds, putD, Tr.get_put, enter, AV.val, AV.cells, ofConst, ofConst1, g2, g3, g4, g27, g31, ty2, ty3, ty4, ty27, ty31, Ab.load, Ab.store, Hp.get_push, Hp.get_put, Ab.part, TI.isAgg, u8ok, allU8, AV.isU8, overwrite, e1]; first | exact ⟨rfl, rfl⟩ | rfl
      case hq =>
      repeat refine Goes.seq ?_
      refine Goes.cond_t (by simp [opnd, Tr.get_put]) ?_
      repeat refine Goes.seq ?_
      apply Goes.region
      case h => simp [evOps, wanted, evOp, kindOf, evPL, evA, evE, opnd, opnds, putD, Tr.get_put, enter, AV.val, AV.cells, ofConst, ofConst1, g2, g3, g4, g27, g31, ty2, ty3, ty4, ty27, ty31, Ab.load, Ab.store, Hp.get_push, Hp.get_put, Ab.part, TI.isAgg, u8ok, allU8, AV.isU8, overwrite]; first | exact ⟨rfl, rfl⟩ | rfl
      case hq =>
      refine Goes.ret ?_
      exact ⟨_, by simp [resultsOf, Tr.get_put]; rfl, rfl⟩
    · have e2 : 4294967296 < next := by omega
      repeat refine Goes.seq ?_
      apply Goes.region
      case h => simp [evOps, wanted, evOp, kindOf, evPL, evA, evE, opnd, opnds, putD, Tr.get_put, enter, AV.val, AV.cells, ofConst, ofConst1, g2, g3, g4, g27, g31, ty2, ty3, ty4, ty27, ty31, Ab.load, Ab.store, Hp.get_push, Hp.get_put, Ab.part, TI.isAgg, u8ok, allU8, AV.isU8, overwrite, e1, e2]; first | exact ⟨rfl, rfl⟩ | rfl
      case hq =>
      repeat refine Goes.seq ?_
      refine Goes.cond_t (by simp [opnd, Tr.get_put]) ?_
      repeat refine Goes.seq ?_
      apply Goes.region
      case h => simp [evOps, wanted, evOp, kindOf, evPL, evA, evE, opnd, opnds, putD, Tr.get_put, enter, AV.val, AV.cells, ofConst, ofConst1, g2, g3, g4, g27, g31, ty2, ty3, ty4, ty27, ty31, Ab.load, Ab.store, Hp.get_push, Hp.get_put, Ab.part, TI.isAgg, u8ok, allU8, AV.isU8, overwrite]; first | exact ⟨rfl, rfl⟩ | rfl
      case hq =>
      refine Goes.ret ?_
      exact ⟨_, by simp [resultsOf, Tr.get_put]; rfl, rfl⟩
end Go.Proofs.YtlphbbfoihcgkaaGreat
