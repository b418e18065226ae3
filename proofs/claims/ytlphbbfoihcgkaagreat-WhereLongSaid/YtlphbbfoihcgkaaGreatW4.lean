/- Part of the proof over the seat YtlphbbfoihcgkaaGreat: W4. No conditions of its own. -/
import Derived.Test.YtlphbbfoihcgkaaGreatW3
namespace Go.Proofs.YtlphbbfoihcgkaaGreat
open Go.Ab
noncomputable def prL1 : List (Nat × Prim) := [(197, ins197P), (232, ins232P), (238, ins238P), (44, p44N), (45, p45N), (11, begunP), (24, p24N)]
set_option maxRecDepth 100000 in
theorem primsOk1 : PrimsOk Tryz.prog E1.prim := by
  intro f p h
  have h1 : (f, p) ∈ prL1 := Tr.get_ofList (l := prL1) h
  simp only [prL1, List.mem_cons, Prod.mk.injEq, List.not_mem_nil, or_false] at h1
  rcases h1 with ⟨rfl, rfl⟩ | ⟨rfl, rfl⟩ | ⟨rfl, rfl⟩ | ⟨rfl, rfl⟩ | ⟨rfl, rfl⟩ | ⟨rfl, rfl⟩ | ⟨rfl, rfl⟩
  · exact ins197Ok
  · exact ins232Ok
  · exact ins238Ok
  · exact p44Ok
  · exact p45Ok
  · exact begunOk
  · exact p24Ok
set_option maxRecDepth 100000 in
theorem callOk1 (rounds n : Nat) : CallOk Tryz.prog (evFn E1 rounds n) := ab_sound (E := E1) (by kernel_rfl) tyOk fnsOk primsOk1 rounds n
end Go.Proofs.YtlphbbfoihcgkaaGreat
