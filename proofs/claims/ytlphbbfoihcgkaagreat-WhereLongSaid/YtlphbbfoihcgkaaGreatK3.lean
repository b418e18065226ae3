/- Part of the proof over the seat YtlphbbfoihcgkaaGreat: K3. No conditions of its own. -/
import Derived.Test.YtlphbbfoihcgkaaGreatK2
namespace Go.Proofs.YtlphbbfoihcgkaaGreat
open Go.Ab
def newM (b : Int) : AV := .agg [.int .i64 b, .int .i64 1, .int .i64 1, .int .i64 0, .nsl, .nsl, .nsl, .nsl, .nsl]
/-- ref10.New of the broker 2, at the empty memory. -/
theorem ev24 : ∃ H1, evFn Ez 5 5 24 [.int .i64 2] Hp.empty = some (newM 2, H1) :=
  ⟨(match evFn Ez 5 5 24 [.int .i64 2] Hp.empty with | some (_, h) => h | none => Hp.empty), by kernel_rfl⟩
def p24N : Prim := fun args H => match args with | [.int .i64 (.ofNat 2)] => some (newM 2, H) | _ => none
set_option maxRecDepth 100000 in
theorem p24Ok : PrimOk Tryz.prog 24 p24N := by
  intro args H r H' h L R w vs hS hV
  unfold p24N at h
  split at h
  · simp only [Option.some.injEq, Prod.mk.injEq] at h
    obtain ⟨rfl, rfl⟩ := h
    obtain ⟨H1, e1⟩ := ev24
    obtain ⟨v1, l1, e2, h1, hV1⟩ := hV.inv_cons
    cases hV1.inv_nil
    have hs : VRs noLoc R [.int .i64 2] vs.toList := by
      rw [e2]
      exact .cons (h1.flat1 rfl) (.nil _ _)
    exact lift_flat hS (callOkz 5 5 24 _ _ _ _ e1 noLoc R w vs hS.rom_none hs) rfl
  · simp at h
end Go.Proofs.YtlphbbfoihcgkaaGreat
