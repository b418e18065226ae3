/- Part of the proof over the seat YtlphbbfoihcgkaaGreat: AbRow. No conditions of its own. -/
import Derived.Test.YtlphbbfoihcgkaaGreatAbLift
import Derived.Carry
import Derived.ChangeSame
namespace Go.Ab
open Go.RowKit Go.WideShapes Go.ChangeShapes

/-- From a step at no blocks: nothing that was there has turned. -/
theorem Step.below {R R' : Rom} {w w' : World} {L' : Loc} {H H' : Hp} (h : Step noLoc R H w L' R' H' w') : Below w.heap.size w w' :=
  ⟨h.os, h.tape, h.output, h.size, fun k hk => h.conc k hk (fun _ _ e => by cases e)⟩

/-- A call that was reckoned at the empty memory, as the kit speaks of it. -/
theorem calls_of_ev {P : Program} {call : CallF} (hC : CallOk P call) {f : Nat} {vs : Array Value} {args : List AV} {b : Bool} {H' : Hp} {R : Rom} {w : World}
    (hcall : ∀ (args : Array Value) w, (callFunc f args).run P w = .ok (.enter f args) w) (h : call f args Hp.empty = some (.bool b, H')) (hR : ∀ c o v, R c o = some v → w.cell? ⟨c, o, none⟩ = some v)
    (hV : VRs noLoc R args vs.toList) : Calls P f vs w fun e w' => e = .returned (.bool b) ∧ Below w.heap.size w w' := by
  have := hC f args Hp.empty _ _ h noLoc R w vs (Sim.none hR) hV
  rw [hcall vs w] at this
  refine Calls.mono (show Calls P f vs w _ from this) fun e w' he => ?_
  obtain ⟨v, rfl, L', R', s1, _, s3⟩ := he
  cases s3
  exact ⟨rfl, s1.below⟩

section
variable {H : Type} {enc : TypeId × Value → H} {P : Program}
theorem post_of_below {f : Func} {s : ChangeSpec} {apart fresh handsOn again : Bool} {W W' : World} {args : Array Value} {v : Value} {ds gs : List (DataW H)} {before pa pv : List MemPlace}
    (hW : DataW.Whole enc P f.params.toList s.vars apart W args.toList ds gs before)
    (hres : ∀ (b : Nat) (sp : Nat → Bool) (hd : Bool), DataW.TrodAll enc P W' b sp hd f.resultTypes.toList (v.resultList f.resultTypes.size) (s.fn H (ds ++ gs)).results [])
    (hargs : ∀ sp : Nat → Bool, (∀ p ∈ before, sp p.block = true) → DataW.TrodAll enc P W' 0 sp true f.params.toList args.toList (s.fn H (ds ++ gs)).args pa)
    (hvars : ∀ sp : Nat → Bool, (∀ p ∈ before, sp p.block = true) → DataW.TrodVars enc P W' sp s.vars (s.fn H (ds ++ gs)).vars pv)
    (hps : before = pa ++ pv) (hb : Below W.heap.size W W')
    (hok : ∀ (j : Nat) (t : TypeId) (r : Value), f.resultTypes[j]? = some t → (v.resultList f.resultTypes.size)[j]? = some r → Value.okWide P W' .any 0 t r) :
    s.post enc P f apart fresh handsOn again W args v W' := by
  have hlt : ∀ p ∈ before, p.block < W.heap.size := fun p hp => hW.lt p hp
  have hold : ∀ p ∈ before, (fun b => decide (b < W.heap.size)) p.block = true := fun p hp => by simpa using hlt p hp
  refine ⟨ds, gs, before, [], pa, pv, hW, hres _ _ _, hargs _ hold, hvars _ hold, World.keptBut_mono (fun p hp => ⟨hp, ?_⟩) (hb.frame (· ∈ before)), fun _ => ?_⟩
  · rw [hps, List.mem_append] at hp
    exact Or.inr hp
  · obtain ⟨_, _, _, _, _, hz, hn⟩ := hW
    refine ⟨hok, _, _, ([] ++ pa) ++ pv, ⟨[] ++ pa, pv, trodAll_append (hargs _ (fun _ _ => rfl)) (hres _ _ _), hvars _ (fun _ _ => rfl), rfl, ?_, ?_⟩, ?_⟩
    · intro b off hp
      have hin : MemPlace.cell b off ∈ before := by rw [hps]; simpa using hp
      rw [hb.frozen (hlt _ hin)]
      exact hz b off hin
    · intro ha
      have := hn ha
      rw [hps] at this
      simpa using this
    · intro p hp _
      rw [hps]
      simpa using hp
end
end Go.Ab
