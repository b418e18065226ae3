/- Part of the proof over the seat YtlphbbfoihcgkaaGreat: AbLift. No conditions of its own. -/
import Derived.Test.YtlphbbfoihcgkaaGreatAbSound
namespace Go.Ab
variable {P : Program} {L : Loc} {R : Rom} {H H' : Hp} {w : World}

/-! ### A call that wrote nothing of what was there -/

theorem RunsTo.mono {r : Result Next} {K K' : Value → World → Prop} (h : RunsTo P r K) (hk : ∀ v w, K v w → K' v w) : RunsTo P r K' := by
  cases r with
  | ok n w' =>
    cases n with
    | value v => exact hk _ _ h
    | skip => exact hk _ _ h
    | enter f args => exact Calls.mono h fun e w'' he => by obtain ⟨v, e1, e2⟩ := he; exact ⟨v, e1, hk _ _ e2⟩
    | _ => exact h.elim
  | halt x w' => exact h.elim

def noLoc : Loc := fun _ => none

/-- All cells of a world. -/
def romOf (w : World) : Rom := fun c o => w.cell? ⟨c, o, none⟩

theorem Sim.none {R : Rom} {w : World} (h : ∀ c o v, R c o = some v → w.cell? ⟨c, o, none⟩ = some v) : Sim noLoc R Hp.empty w :=
  ⟨fun _ _ h => (by cases h), fun _ _ h => (by cases h), fun _ _ _ _ h => (by cases h), h, fun _ _ h => (by cases h)⟩

theorem Sim.rom_none (h : Sim L R H w) : Sim noLoc R Hp.empty w := Sim.none h.rom

theorem Sim.later {w' : World} (h : Sim L R H w) (hc : ∀ c, c < w.heap.size → w'.heap[c]? = w.heap[c]?) : Sim L R H w' := by
  refine ⟨h.dom, fun b x hb => ?_, h.inj, fun c o v hr => ?_, h.apart⟩
  · by_cases hd : H.get b = .dead
    · rw [hd]; trivial
    · have hB := h.blk b x hb
      exact hB.other (hc _ (hB.lt hd))
  · have := h.rom c o v hr
    have hlt : c < w.heap.size := by
      rcases Nat.lt_or_ge c w.heap.size with hl | hl
      · exact hl
      · rw [World.cell?, Array.getElem?_eq_none hl] at this
        simp at this
    rw [cell_other (hc c hlt)]; exact this

/-- Of no memory. -/
def AV.flat1 : AV → Bool
  | .int _ _ | .bool _ | .str _ | .nil _ | .nsl | .undef => true
  | _ => false

def AV.flat : AV → Bool
  | .tup l => l.all AV.flat1
  | .agg l => l.all AV.flat1
  | a => a.flat1

theorem VR.flat1 {L' : Loc} {R' : Rom} {a : AV} {v : Value} (h : VR L R a v) (ha : a.flat1 = true) : VR L' R' a v := by
  cases h <;> first | (simp [AV.flat1] at ha; done) | skip
  · exact .undef _
  · exact .int _ _
  · exact .bool _
  · exact .str _
  · rename_i h; exact .nil _ h
  · exact .nsl

theorem VR.flat {L' : Loc} {R' : Rom} {a : AV} {v : Value} (h : VR L R a v) (ha : a.flat = true) : VR L' R' a v := by
  cases a with
  | tup l =>
    cases h with
    | tup _ vs hl hv => exact .tup l vs hl fun i x y hx hy => (hv i x y hx hy).flat1 (List.all_eq_true.1 ha x (List.mem_of_getElem? hx))
  | agg l =>
    cases h with
    | agg _ vs hl ho hv => exact .agg l vs hl ho fun i x y hx hy => (hv i x y hx hy).flat1 (List.all_eq_true.1 ha x (List.mem_of_getElem? hx))
  | _ => exact h.flat1 ha

theorem lift_flat {R0 : Rom} {s : Result Next} {r : AV} (hS : Sim L R H w) (h : RunsTo P s (Post noLoc R0 Hp.empty w r H')) (hr : r.flat = true) : RunsTo P s (Post L R H w r H) := by
  refine h.mono fun v w' hp => ?_
  obtain ⟨L', R', s1, s2, s3⟩ := hp
  have hc : ∀ c, c < w.heap.size → w'.heap[c]? = w.heap[c]? := fun c hc => s1.conc c hc (fun _ _ h => by cases h)
  exact ⟨L, R, ⟨.refl H, fun _ _ h => h, fun _ _ _ h => h, fun _ _ h => .inl h, fun _ _ _ => rfl, fun c h _ => hc c h, fun _ _ h => .inl h, fun _ _ _ h => .inl h, s1.size, s1.os, s1.tape, s1.output⟩, hS.later hc, s3.flat hr⟩

/-- A function without arguments, reckoned once. -/
theorem closed_prim {call : CallF} (hC : CallOk P call) {f : Nat} {r : AV} {H1 : Hp} (h : call f [] Hp.empty = some (r, H1)) (hr : r.flat = true) : PrimOk P f (fun args H => match args with | [] => some (r, H) | _ => none) := by
  intro args H r' H' he L R w vs hS hV
  cases args with
  | cons a as => simp at he
  | nil =>
    simp only [Option.some.injEq, Prod.mk.injEq] at he
    obtain ⟨rfl, rfl⟩ := he
    have := hC f [] Hp.empty r H1 h noLoc R w vs hS.rom_none ⟨hV.1, by simp⟩
    exact lift_flat hS this hr

end Go.Ab
