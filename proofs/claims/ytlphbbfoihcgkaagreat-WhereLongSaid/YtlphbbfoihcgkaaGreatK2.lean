/- Part of the proof over the seat YtlphbbfoihcgkaaGreat: K2. No conditions of its own. -/
import Derived.Test.YtlphbbfoihcgkaaGreatAbSeat
import Derived.Test.YtlphbbfoihcgkaaGreatAbGoes
import Derived.Test.YtlphbbfoihcgkaaGreatK1
namespace Go.Ab
theorem post_same {P : Program} {L : Loc} {R : Rom} {H : Hp} {w : World} {f : Nat} {vs : Array Value} {r : AV} {v : Value} (hc : ∀ (args : Array Value) (w : World), (callFunc f args).run P w = .ok (.enter f args) w)
    (hS : Sim L R H w) (h : Calls P f vs w fun e w' => e = .returned v ∧ w' = w) (hr : VR L R r v) : RunsTo P ((callFunc f vs).run P w) (Post L R H w r H) := by
  rw [hc vs w]
  refine h.mono ?_
  rintro e w' ⟨rfl, rfl⟩
  exact ⟨v, rfl, L, R, .refl _ _ _ _, hS, hr⟩
end Go.Ab
namespace Go.Proofs.YtlphbbfoihcgkaaGreat
open Go.Ab
noncomputable def Ez : Ab.Env := ⟨tyT, fnT, prT⟩
set_option maxRecDepth 100000 in
theorem callOkz (rounds n : Nat) : CallOk Tryz.prog (evFn Ez rounds n) := ab_sound (E := Ez) (by kernel_rfl) tyOk fnsOk primsOk rounds n
theorem ev45 : evFn Ez 3 3 45 [.nsl, .undef] Hp.empty = some (.int .i64 (-1), Hp.empty) := by kernel_rfl
def p45N : Prim := fun args H => match args with | [.nsl, _] => some (.int .i64 (-1), H) | _ => none
set_option maxRecDepth 100000 in
theorem p45Ok : PrimOk Tryz.prog 45 p45N := by
  intro args H r H' h L R w vs hS hV
  unfold p45N at h
  split at h
  · rename_i a
    simp only [Option.some.injEq, Prod.mk.injEq] at h
    obtain ⟨rfl, rfl⟩ := h
    obtain ⟨v1, l1, e1, h1, hV1⟩ := hV.inv_cons
    obtain ⟨v2, l2, e2, h2, hV2⟩ := hV1.inv_cons
    cases hV2.inv_nil
    have hs : VRs noLoc R [.nsl, .undef] vs.toList := by
      rw [e1, e2]
      refine .cons (h1.flat1 rfl) (.cons (.undef _) (.nil _ _))
    exact lift_flat hS (callOkz 3 3 45 _ _ _ _ ev45 noLoc R w vs hS.rom_none hs) rfl
  · simp at h
def p44N : Prim := fun args H => match args with | [.int .i64 b, .int .i64 n] => some (.int .i64 (makeM b n), H) | _ => none
set_option maxRecDepth 100000 in
theorem p44Ok : PrimOk Tryz.prog 44 p44N := by
  intro args H r H' h L R w vs hS hV
  unfold p44N at h
  split at h
  · rename_i b n
    simp only [Option.some.injEq, Prod.mk.injEq] at h
    obtain ⟨rfl, rfl⟩ := h
    obtain ⟨v1, l1, e1, h1, hV1⟩ := hV.inv_cons
    obtain ⟨v2, l2, e2, h2, hV2⟩ := hV1.inv_cons
    cases hV2.inv_nil
    cases h1; cases h2
    have hvs : vs = #[.int .i64 b, .int .i64 n] := by
      apply Array.toList_inj.1; rw [e1, e2]
    subst hvs
    exact post_same Tryz.call44 hS (k44 b n w) (.int _ _)
  · simp at h
end Go.Proofs.YtlphbbfoihcgkaaGreat
