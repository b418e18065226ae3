/- Part of the proof over the seat YtlphbbfoihcgkaaGreat: W3. No conditions of its own. -/
import Derived.Test.YtlphbbfoihcgkaaGreatAbBegun
import Derived.Test.YtlphbbfoihcgkaaGreatAbSimp
import Derived.Test.YtlphbbfoihcgkaaGreatK3
namespace Go.Proofs.YtlphbbfoihcgkaaGreat
open Go.Ab
set_option linter.unusedSimpArgs false
noncomputable def E1 : Ab.Env := ⟨tyT, fnT, (((prT.put 44 p44N).put 45 p45N).put 11 begunP).put 24 p24N⟩
theorem g27 : E1.ty.get 27 = some ty27 := by kernel_rfl
theorem g2 : E1.ty.get 2 = some ty2 := by kernel_rfl
theorem g3 : E1.ty.get 3 = some ty3 := by kernel_rfl
theorem g36 : E1.ty.get 36 = some ty36 := by kernel_rfl
theorem g22 : E1.ty.get 22 = some ty22 := by kernel_rfl
theorem g31 : E1.ty.get 31 = some ty31 := by kernel_rfl
theorem f14g : E1.fn.get 14 = some fi14 := by kernel_rfl
theorem p44 (r n : Nat) (a b : Int) (H : Hp) : evFn E1 r (n + 1) 44 [.int .i64 a, .int .i64 b] H = some (.int .i64 (makeM a b), H) :=
  evFn_prim (p := p44N) (by simp only [E1, Tr.get_put]; rfl) _ _
theorem p45 (r n : Nat) (a : AV) (H : Hp) : evFn E1 r (n + 1) 45 [.nsl, a] H = some (.int .i64 (-1), H) :=
  evFn_prim (p := p45N) (by simp only [E1, Tr.get_put]; rfl) _ _
theorem n14 : E1.prim.get 14 = none := by simp only [E1, Tr.get_put]; rfl
def st (b next : Int) : List AV := [.int .i64 b, .int .i64 next, .int .i64 1, .int .i64 0, .nsl, .nsl, .nsl, .nsl, .nsl]
def I (b0 : Nat) (next : Int) (k : Nat) (env : Tr AV) (H : Hp) : Prop := ∃ (i : Nat) (l : AV), 1 ≤ i ∧ (i : Int) ≤ next ∧ k = (next - i + 1).toNat ∧ env.get 1 = some (.ptr b0 0) ∧ env.get 4 = some (.int .i64 i) ∧ env.get 3 = some l ∧ H.get b0 = .cells (st 2 next) ∧ b0 < H.n ∧
  ((i = 1 ∧ l = .nsl) ∨ ∃ b c0 t, l = .ref b 0 (i - 1) 3 (i - 1) false ∧ H.get b = .cells (c0 :: t) ∧ t.length + 1 = (i - 1) * 3 ∧ b0 ≠ b ∧ b < H.n ∧ c0.isU8 = false)
set_option maxHeartbeats 1000000 in
set_option maxRecDepth 100000 in
theorem all_nil (r n : Nat) (next : Int) (H0 : Hp) (h1 : 1 ≤ next) (h2 : next ≤ 10000) (hr : 10001 < r) : ∃ v H', evFn E1 r (n + 2) 14 [.agg (st 2 next)] H0 = some (v, H') ∧ builtinPL H' .len (some ty31) [v] = some (.int .i64 (next - 1)) := by
  rw [evFn_body n14 f14g]
  refine body_goes (K := fun v H' => builtinPL H' .len (some ty31) [v] = some (.int .i64 (next - 1))) ?_
  simp only [fi14, bodyOf, Tryz.f14]
  have hg : ¬ (10000 : Int) < next := by omega
  repeat refine Goes.seq ?_
  apply Goes.region
  case h => simp [evOps, wanted, evOp, kindOf, evPL, evA, opnd, putD, Tr.get_put, enter, AV.val, AV.cells, st, ofConst, ofConst1, g31, g27, g2, g3, g22, g36, ty27, ty2, ty3, ty22, ty36, Ab.load, Hp.get_push, Hp.get_put, Ab.part, TI.isAgg, AV.one, hg]; first | exact ⟨rfl, rfl⟩ | rfl
  case hq =>
  repeat refine Goes.seq ?_
  apply Goes.region
  case h => simp [evOps, wanted, evOp, kindOf, evPL, evA, opnd, putD, Tr.get_put, enter, AV.val, AV.cells, st, ofConst, ofConst1, g31, g27, g2, g3, g22, g36, ty27, ty2, ty3, ty22, ty36, Ab.load, Hp.get_push, Hp.get_put, Ab.part, TI.isAgg, AV.one, hg]; first | exact ⟨rfl, rfl⟩ | rfl
  case hq =>
  refine Goes.cond_f (by simp [opnd, Tr.get_put]) ?_
  refine Goes.skip ?_
  repeat refine Goes.seq ?_
  apply Goes.region
  case h => simp [evOps, wanted, evOp, kindOf, evPL, evA, opnd, putD, Tr.get_put, enter, AV.val, AV.cells, st, ofConst, ofConst1, g31, g27, g2, g3, g22, g36, ty27, ty2, ty3, ty22, ty36, Ab.load, Hp.get_push, Hp.get_put, Ab.part, TI.isAgg, AV.one, hg]; first | exact ⟨rfl, rfl⟩ | rfl
  case hq =>
  repeat refine Goes.seq ?_
  apply Goes.region
  case h => simp [evOps, wanted, evOp, kindOf, evPL, evA, opnd, putD, Tr.get_put, enter, AV.val, AV.cells, st, ofConst, ofConst1, g31, g27, g2, g3, g22, g36, ty27, ty2, ty3, ty22, ty36, Ab.load, Hp.get_push, Hp.get_put, Ab.part, TI.isAgg, AV.one, hg]; first | exact ⟨rfl, rfl⟩ | rfl
  case hq =>
  refine Goes.block ?_
  refine Goes.loop (I H0.n next) next.toNat ⟨1, .nsl, by omega, by omega, by omega, by simp [Tr.get_put], by simp [Tr.get_put], by simp [Tr.get_put], by simp [Hp.get_push, st], by simp, .inl ⟨rfl, rfl⟩⟩ (by omega) ?_
  rintro k env H ⟨i, l, i1, i2, hk, e1, e4, e3, eH, hn, hl⟩
  repeat refine Goes.seq ?_
  apply Goes.region
  case h => simp [evOps, wanted, evOp, kindOf, evPL, evA, evE, opnd, opnds, putD, Tr.get_put, AV.val, AV.cells, st, ofConst, ofConst1, g31, g27, g2, g3, g22, g36, ty27, ty2, ty3, ty22, ty31, ty36, Ab.load, Ab.store, Hp.get_push, Hp.get_put, Ab.part, TI.isAgg, AV.one, e1, e3, e4, eH, p44, p45, parts, Ab.fill, overwrite, u8ok, allU8, AV.isU8, lenAV, cellsOf, flat]; first | exact ⟨rfl, rfl⟩ | rfl
  case hq =>
    by_cases hlt : (i : Int) < next
    · refine Goes.cond_t (by simp [opnd, Tr.get_put]; exact hlt) ?_
      refine Goes.skip ?_
      refine Goes.seq ?_
      refine Goes.block ?_
      repeat refine Goes.seq ?_
      have h0 : ¬ (H0.n = H.n) := by omega
      have m1 : ¬ (H0.n = H.n + 1 + 1) := by omega
      have m2 : ¬ (H0.n = H.n + 1) := by omega
      apply Goes.region
      case h => simp [evOps, wanted, evOp, kindOf, evPL, evA, evE, opnd, opnds, optOpnd, putD, Tr.get_put, AV.val, AV.cells, st, ofConst, ofConst1, g31, g27, g2, g3, g22, g36, ty27, ty2, ty3, ty22, ty31, ty36, Ab.load, Ab.store, Hp.get_push, Hp.get_put, Ab.part, TI.isAgg, AV.one, e1, e3, e4, eH, h0, p44, p45, parts, Ab.fill, overwrite, u8ok, allU8, AV.isU8, lenAV, cellsOf, flat, appendTo, repeatCells]; first | exact ⟨rfl, rfl⟩ | rfl
      case hq =>
      repeat refine Goes.seq ?_
      apply Goes.region
      case h => simp [evOps, wanted, evOp, kindOf, evPL, evA, evE, opnd, opnds, optOpnd, putD, Tr.get_put, AV.val, AV.cells, st, ofConst, ofConst1, g31, g27, g2, g3, g22, g36, ty27, ty2, ty3, ty22, ty31, ty36, Ab.load, Ab.store, Hp.get_push, Hp.get_put, Ab.part, TI.isAgg, AV.one, e1, e3, e4, eH, h0, p44, p45, parts, Ab.fill, overwrite, u8ok, allU8, AV.isU8, lenAV, cellsOf, flat, appendTo, repeatCells]; first | exact ⟨rfl, rfl⟩ | rfl
      case hq =>
      repeat refine Goes.seq ?_
      apply Goes.region
      case h => simp [evOps, wanted, evOp, kindOf, evPL, evA, evE, opnd, opnds, optOpnd, putD, Tr.get_put, AV.val, AV.cells, st, ofConst, ofConst1, g31, g27, g2, g3, g22, g36, ty27, ty2, ty3, ty22, ty31, ty36, Ab.load, Ab.store, Hp.get_push, Hp.get_put, Ab.part, TI.isAgg, AV.one, e1, e3, e4, eH, h0, p44, p45, parts, Ab.fill, overwrite, u8ok, allU8, AV.isU8, lenAV, cellsOf, flat, appendTo, repeatCells]; first | exact ⟨rfl, rfl⟩ | rfl
      case hq =>
      refine Goes.cond_f (by simp [opnd, Tr.get_put]) ?_
      refine Goes.skip ?_
      rcases hl with ⟨rfl, rfl⟩ | ⟨b, c0, t, rfl, eb, ht, hb1, hbn, hu⟩
      · apply Goes.region
        case h => simp [evOps, wanted, evOp, kindOf, evPL, evA, evE, opnd, opnds, optOpnd, putD, Tr.get_put, AV.val, AV.cells, st, ofConst, ofConst1, g31, g27, g2, g3, g22, g36, ty27, ty2, ty3, ty22, ty31, ty36, Ab.load, Ab.store, Hp.get_push, Hp.get_put, Ab.part, TI.isAgg, AV.one, e1, e3, e4, eH, h0, p44, p45, parts, Ab.fill, overwrite, u8ok, allU8, AV.isU8, lenAV, cellsOf, flat, appendTo, repeatCells]; first | exact ⟨rfl, rfl⟩ | rfl
        case hq =>
        apply Goes.region
        case h => simp [evOps, wanted, evOp, kindOf, evPL, opnd, putD, Tr.get_put, e4, ofConst, ofConst1, g2, ty2]; exact ⟨rfl, rfl⟩
        case hq =>
        have hw : IntKind.i64.wrap 2 = 2 := by rw [IntKind.wrap_i64]; omega
        refine ⟨(next - (2 : Nat) + 1).toNat, by omega, 2, .ref (H.n + 2) 0 1 3 1 false, by omega, by omega, rfl, by simp [Tr.get_put, e1], by simp [Tr.get_put, hw], by simp [Tr.get_put], ?_, ?_, .inr ⟨H.n + 2, _, _, rfl, by simp [Hp.get_push]; exact ⟨rfl, rfl⟩, rfl, by omega, by simp, rfl⟩⟩
        · simp [Hp.get_push, Hp.get_put, h0, eH, m1, m2]
        · simp; omega
      · have hw : IntKind.i64.wrap ((i : Int) + 1) = (i : Int) + 1 := by rw [IntKind.wrap_i64]; omega
        have q1 : ¬ i - 1 + 1 ≤ i - 1 := by omega
        have q2 : i - 1 + 1 < 1099511627776 ∧ (i - 1 + 1) * 24 < 17592186044416 := by omega
        have q3 : ¬ b = H.n := by omega
        have q4 : ¬ b = H.n + 1 := by omega
        apply Goes.region
        case h => simp [evOps, wanted, evOp, kindOf, evPL, evA, evE, opnd, opnds, optOpnd, putD, Tr.get_put, AV.val, AV.cells, st, ofConst, ofConst1, g31, g27, g2, g3, g22, g36, ty27, ty2, ty3, ty22, ty31, ty36, Ab.load, Ab.store, Hp.get_push, Hp.get_put, Ab.part, TI.isAgg, AV.one, e1, e3, e4, eH, h0, p44, p45, parts, Ab.fill, overwrite, u8ok, allU8, lenAV, cellsOf, flat, appendTo, repeatCells, eb, hu, q1, q2, q3, q4, ht]; first | exact ⟨rfl, rfl⟩ | rfl
        case hq =>
        apply Goes.region
        case h => simp [evOps, wanted, evOp, kindOf, evPL, opnd, putD, Tr.get_put, e4, ofConst, ofConst1, g2, ty2, hw]; exact ⟨rfl, rfl⟩
        case hq =>
        have hi : i - 1 + 1 = i := by omega
        rw [hi]
        refine ⟨(next - ((i + 1 : Nat) : Int) + 1).toNat, by omega, i + 1, .ref (H.n + 2) 0 i 3 i false, by omega, by omega, rfl, by simp [Tr.get_put, e1], by simp [Tr.get_put], by simp [Tr.get_put], ?_, ?_,
          .inr ⟨H.n + 2, c0, t ++ [AV.int IntKind.i64 (makeM 2 i), AV.int IntKind.i64 4, AV.int IntKind.i64 0], rfl, by simp [Hp.get_push], by simp; omega, by omega, by simp, hu⟩⟩
        · have h00 : ¬ H0.n = b := hb1
          simp [Hp.get_push, Hp.get_put, h0, eH, h00, m1, m2]
        · simp; omega
    · refine Goes.cond_f (by simp [opnd, Tr.get_put]; omega) ?_
      refine Goes.exit ?_
      simp only [thenGo, inBlk, if_true]
      repeat refine Goes.seq ?_
      apply Goes.region
      case h => simp [evOps, wanted, evOp, kindOf, evPL, opnd, putD, Tr.get_put, e3]; exact ⟨rfl, rfl⟩
      case hq =>
      refine Goes.ret ?_
      refine ⟨_, by simp [resultsOf, Tr.get_put]; rfl, ?_⟩
      rcases hl with ⟨rfl, rfl⟩ | ⟨b, c0, t, rfl, eb, ht, hb1, hbn, hu⟩
      · simp [builtinPL, ty31]; omega
      · simp [builtinPL, ty31]; omega
end Go.Proofs.YtlphbbfoihcgkaaGreat
