/- Part of the proof over the seat YtlphbbfoihcgkaaGreat: AbFn. No conditions of its own. -/
import Derived.Test.YtlphbbfoihcgkaaGreatAbCode
namespace Go.Ab
variable {P : Program} {E : Env} {call : CallF}

structure FnRel (P : Program) (f : Nat) (fi : FI) : Prop where
  call : ∀ (args : Array Value) w, (callFunc f args).run P w = .ok (.enter f args) w
  func : ∃ fn, P.funcs[f]? = some fn ∧ fn.body = some fi.body ∧ fn.ntmps = fi.ntmps ∧ fn.results = fi.results.toArray
  dst : dstsOk fi.ntmps fi.body = true

def FnsOk (P : Program) (t : Tr FI) : Prop := ∀ f fi, t.get f = some fi → FnRel P f fi

/-- One function that is told. -/
def PrimOk (P : Program) (f : Nat) (p : Prim) : Prop :=
  ∀ args H r H', p args H = some (r, H') → ∀ L R w (vs : Array Value), Sim L R H w → VRs L R args vs.toList →
    RunsTo P ((callFunc f vs).run P w) (Post L R H w r H')

def PrimsOk (P : Program) (t : Tr Prim) : Prop := ∀ f p, t.get f = some p → PrimOk P f p

theorem enter_get (args : List AV) : ∀ (i : Nat) (env : Tr AV) (t : Nat), (enter args i env).get t = if i ≤ t ∧ t < i + args.length then args[t - i]? else env.get t := by
  induction args with
  | nil => intro i env t; simp [enter]; intro h1 h2; omega
  | cons a as ih =>
    intro i env t
    simp only [enter, ih, Tr.get_put, List.length_cons]
    by_cases h1 : i + 1 ≤ t ∧ t < i + 1 + as.length
    · rw [if_pos h1, if_pos (by omega)]
      rw [show t - i = (t - (i + 1)) + 1 by omega]; simp
    · rw [if_neg h1]
      by_cases h2 : t = i
      · subst h2; rw [if_pos rfl, if_pos (by omega)]; simp
      · rw [if_neg h2, if_neg (by omega)]

def resStep (tmps : Array Value) : ResultVar → Sem Value
  | .tmp t => pure (tmps.getD t undef)
  | .cell x t => do loadVar t (← asAddr (tmps.getD x undef))

theorem results_eq (fn : Func) (rs : List ResultVar) (h : fn.results = rs.toArray) (tmps : Array Value) {vs : List Value} {w : World} (hr : (rs.mapM (resStep tmps)).run P w = .ok vs w) :
    (results fn tmps).run P w = .ok (if h : vs.toArray.size = 1 then vs.toArray[0] else .tuple vs.toArray) w := by
  have e : results fn tmps = (do let vs ← fn.results.mapM (resStep tmps); pure (if h : vs.size = 1 then vs[0] else .tuple vs)) := rfl
  rw [e, h, List.mapM_toArray]
  simp only [Sem.run_bind, Sem.run_map, hr, Result.andThen_ok, Sem.run_pure]

theorem results_run {L : Loc} {R : Rom} {H : Hp} {w : World} (hT : TyOk P E.ty) (hS : Sim L R H w) {N : Nat} {env : Tr AV} {a : Act} (hE : EnvR L R N env a) : ∀ (rs : List ResultVar) (l : List AV), resultsOf E env H rs = some l →
    ∃ vs, (rs.mapM (resStep a.tmps)).run P w = Result.ok vs w ∧ VRs L R l vs := by
  intro rs
  induction rs with
  | nil => intro l h; simp [resultsOf] at h; subst h; exact ⟨[], by simp, .nil _ _⟩
  | cons r rs ih =>
    intro l h
    cases r with
    | tmp t =>
      simp only [resultsOf] at h
      split at h
      · rename_i l' hl'
        obtain ⟨vs, h1, h2⟩ := ih l' hl'
        refine ⟨a.tmps.getD t undef :: vs, by simp [List.mapM_cons, h1, resStep], ?_⟩
        split at h
        · rename_i v hv; cases h; exact .cons (hE.get t v hv) h2
        · cases h; exact .cons (.undef _) h2
      · simp at h
    | cell x t =>
      simp only [resultsOf] at h
      split at h
      · rename_i l' p ti hl' hp hti
        split at h
        · rename_i v hv
          cases h
          obtain ⟨vs, h1, h2⟩ := ih l' hl'
          obtain ⟨val, h3, h4, _⟩ := load_sound (hT _ _ hti) hS (hE.get x p hp) hv
          refine ⟨val :: vs, ?_, .cons h4 h2⟩
          have h3' : (resStep a.tmps (.cell x t)).run P w = .ok val w := by
            simp only [resStep]
            have := hE.get x p hp
            unfold Instr.loadAt Instr.sureAddr at h3
            generalize a.tmps.getD x undef = q at h3 this ⊢
            cases this <;> simp_all [load, asAddr]
          simp only [List.mapM_cons, Sem.run_bind, h3', Result.andThen_ok, h1, Sem.run_pure]
        · simp at h
      · simp at h

theorem fn_sound (hT : TyOk P E.ty) (hF : FnsOk P E.fn) (hP : PrimsOk P E.prim) (hD : ∀ call, CallOk P call → DrawOk P E call) (rounds : Nat) : ∀ n, CallOk P (evFn E rounds n) := by
  intro n
  induction n with
  | zero => intro f args H r H' h; simp [evFn] at h
  | succ n ih =>
    intro f args H r H' h L R w vs hS hV
    unfold evFn at h
    split at h
    · rename_i p hp
      exact hP f p hp args H r H' h L R w vs hS hV
    · split at h
      · rename_i fi hfi
        obtain ⟨hcall, ⟨fn, hfn, hbody, hnt, hres⟩, hdst⟩ := hF f fi hfi
        rw [hcall vs w]
        refine calls_of_wp hfn hbody ?_
        unfold evBody at h
        have hE0 : EnvR L R fi.ntmps (enter args 0 .leaf) { tmps := vs ++ Array.replicate (fn.ntmps - vs.size) undef, defers := [] } := by
          refine ⟨rfl, by simp [hnt]; omega, fun t v e => ?_⟩
          rw [enter_get] at e
          simp only [Nat.zero_le, true_and, Nat.zero_add, Nat.sub_zero, Tr.get] at e
          split at e
          · rename_i hlt
            have hl := hV.1
            simp only [Array.length_toList] at hl
            have hlt' : t < vs.size := by omega
            rw [Array.getD_eq_getD_getElem?, Array.getElem?_append_left hlt']
            have hx : vs.toList[t]? = some vs[t] := by simp [hlt']
            have := hV.2 t v _ e hx
            simpa [hlt'] using this
          · simp at e
        split at h
        · simp at h
        · rename_i out env' H1 hne hev
          refine code_sound hT ih (hD _ ih) fi.body hdst hS hE0 hev fun a' w' hW => ?_
          obtain ⟨L', R', s1, s2, s3⟩ := hW
          have key : ∃ v, (results fn a'.tmps).run P w' = .ok v w' ∧ VR L' R' r v ∧ H' = H1 := by
            split at h
            · rename_i v hr
              simp at h; obtain ⟨rfl, rfl⟩ := h
              obtain ⟨l, h1, h2⟩ := results_run hT s2 s3 _ _ hr
              obtain ⟨x, l', rfl, hx, hl'⟩ := h2.inv_cons
              obtain rfl := hl'.inv_nil
              refine ⟨x, ?_, hx, rfl⟩
              have := results_eq fn _ hres _ h1
              simpa using this
            · rename_i l hl hr
              simp at h; obtain ⟨rfl, rfl⟩ := h
              obtain ⟨vs', h1, h2⟩ := results_run hT s2 s3 _ _ hr
              refine ⟨.tuple vs'.toArray, ?_, .tup _ _ (by simpa using h2.1) (fun i a v h3 h4 => h2.2 i a v h3 (by simpa using h4)), rfl⟩
              have := results_eq fn _ hres _ h1
              have hne1 : vs'.toArray.size ≠ 1 := by
                intro hs
                have h2l := h2.1
                simp only [List.size_toArray] at hs
                rw [hs] at h2l
                match l, h2l with
                | [v], _ => exact hl v rfl
              rwa [dif_neg hne1] at this
            · simp at h
          obtain ⟨v, k1, k2, rfl⟩ := key
          have : bodyPost P fn (fun e w'' => ∃ v, e = .returned v ∧ Post L R H w r H' v w'') .ret a' w' := ⟨s3.defers, v, k1, v, rfl, L', R', s1, s2, k2⟩
          cases out with
          | normal => exact this
          | ret => exact this
          | exit i => exact (hne i rfl).elim
        · simp at h
      · simp at h

end Go.Ab
