/- Part of the proof over the seat YtlphbbfoihcgkaaGreat: AbSeq. No conditions of its own. -/
import Derived.Test.YtlphbbfoihcgkaaGreatAbE
import Derived.LoopN
namespace Go.Ab
variable {P : Program} {L : Loc} {R : Rom} {H H' : Hp} {w : World} {E : Env} {call : CallF} {env env' : Tr AV} {o : Oper}

/-! ### One operation -/

theorem op_sound (hT : TyOk P E.ty) (hC : CallOk P call) (hS : Sim L R H w) {ρ : Operand → Value} (hE : ER L R env ρ o.op.operands.toList) {v : AV} (h : evOp E call env H o = some (v, H')) :
    RunsTo P ((execOp ρ o).run P w) (Post L R H w v H') := by
  unfold evOp at h
  split at h
  · rename_i hk
    split at h
    · rename_i x hx
      simp at h; obtain ⟨rfl, rfl⟩ := h
      obtain ⟨val, h1, h2⟩ := pl_sound hT hS hE hk hx
      rw [h1]
      exact ⟨L, R, .refl _ _ _ _, hS, h2⟩
    · simp at h
  · rename_i hk
    split at h
    · rename_i f x hx
      simp at h; obtain ⟨rfl, rfl⟩ := h
      obtain ⟨val, w', sz, h1, h2, h3, h4, h5, h6, h7, h8, h9⟩ := a_sound hT (w := w) hE hk hx
      rw [h1]
      obtain ⟨L', e1, e2, e3, e4⟩ := new_sound hS (by omega) h3 h4 h5 h6 h7
      exact ⟨L', R, e2, e1, h9 _ _ _ e3⟩
    · simp at h
  · rename_i hk
    exact e_sound hT hC hS hE hk h

/-! ### The temporaries -/

structure EnvR (L : Loc) (R : Rom) (N : Nat) (env : Tr AV) (a : Act) : Prop where
  defers : a.defers = []
  size : N ≤ a.tmps.size
  get : ∀ t v, env.get t = some v → VR L R v (a.tmps.getD t undef)

theorem EnvR.mono {N : Nat} {a : Act} (h : EnvR L R N env a) {L' : Loc} {R' : Rom} (hL : ∀ b x, L b = some x → L' b = some x) (hR : ∀ c o v, R c o = some v → R' c o = some v) : EnvR L' R' N env a :=
  ⟨h.defers, h.size, fun t v e => (h.get t v e).mono hL hR⟩

theorem EnvR.eval {N : Nat} {a : Act} (h : EnvR L R N env a) (x : Operand) (v : AV) (e : opnd env x = some v) : VR L R v (a.eval x) := by
  cases x with
  | tmp t =>
    simp only [opnd] at e
    split at e
    · rename_i u hu; cases e; exact h.get t v hu
    · cases e; exact .undef _
  | const c => exact VR.ofConst e
  | global g => simp [opnd] at e
  | func f => simp only [opnd] at e; cases e; exact .fn f [] #[] rfl (by simp)

theorem EnvR.er {N : Nat} {a : Act} (h : EnvR L R N env a) (xs : List Operand) : ER L R env a.eval xs := fun x _ v e => h.eval x v e

def dstOk (N : Nat) (o : Oper) : Bool := match o.dst with
  | some d => Nat.blt d N
  | none => true

theorem blt_iff {a b : Nat} : Nat.blt a b = true ↔ a < b := by simp [Nat.blt, Nat.lt_iff_add_one_le]

theorem EnvR.put {N : Nat} {a : Act} (h : EnvR L R N env a) (hd : dstOk N o = true) {v : AV} {x : Value} (hv : VR L R v x) : EnvR L R N (putD env o.dst v) (a.put o.dst x) := by
  unfold dstOk at hd
  cases ho : o.dst with
  | none => exact h
  | some d =>
    rw [ho] at hd
    have hd' : d < N := blt_iff.1 hd
    refine ⟨h.defers, by simp [Act.put, h.size], fun t u e => ?_⟩
    simp only [putD, Tr.get_put] at e
    simp only [Act.put, Array.getD_eq_getD_getElem?, Array.getElem?_setIfInBounds]
    by_cases ht : t = d
    · subst ht
      rw [if_pos rfl] at e; cases e
      rw [if_pos rfl, if_pos (Nat.lt_of_lt_of_le hd' h.size)]
      exact hv
    · rw [if_neg ht] at e
      rw [if_neg (fun k => ht k.symm)]
      have := h.get t u e
      rwa [Array.getD_eq_getD_getElem?] at this

theorem wanted_sound {N : Nat} {a : Act} (h : EnvR L R N env a) {ops : Array Oper} {b : Bool} (e : wanted o ops env = some b) : Region.wanted o (yielded ops a.tmps) = b := by
  unfold wanted at e
  unfold Region.wanted
  cases hg : o.guard with
  | none => rw [hg] at e; simpa using e
  | some jb =>
    obtain ⟨j, want⟩ := jb
    rw [hg] at e
    simp only at e ⊢
    unfold yielded
    split at e
    · rename_i d hd
      rw [hd]
      simp only [Option.bind_some]
      split at e
      · rename_i c hc
        have hv := h.get _ _ hc
        have hv' : a.tmps[d]? = some (.bool c) := by
          rw [Array.getD_eq_getD_getElem?] at hv
          cases hq : a.tmps[d]? with
          | none => rw [hq] at hv; simp [undef] at hv; cases hv
          | some x => rw [hq] at hv; simp at hv; cases hv; rfl
        rw [hv']
        simp at e
        cases want <;> cases c <;> simp_all
      · rename_i hc
        have hv := h.get _ _ hc
        simp at e; subst e
        rw [Array.getD_eq_getD_getElem?] at hv
        cases hq : a.tmps[d]? with
        | none => simp
        | some x => rw [hq] at hv; simp at hv; cases hv; simp
      · simp at e
    · rename_i hd
      rw [hd]
      simp at e; subst e; simp

/-- What is owed behind a run of a piece. -/
def Went (L : Loc) (R : Rom) (N : Nat) (H : Hp) (w : World) (env' : Tr AV) (H' : Hp) (a : Act) (w' : World) : Prop :=
  ∃ L' R', Step L R H w L' R' H' w' ∧ Sim L' R' H' w' ∧ EnvR L' R' N env' a

theorem Oper.wp_of_runs {a : Act} {w : World} {K : Act → World → Prop} {Q : Exit → Act → World → Prop} {J : Value → World → Prop} (h : RunsTo P ((execOp a.eval o).run P w) J)
    (hK : ∀ v w', J v w' → K (a.put o.dst v) w') : Oper.wp P o a w K Q := by
  unfold Oper.wp
  generalize (execOp a.eval o).run P w = r at h
  cases r with
  | ok n w' =>
    cases n with
    | value v => exact hK _ _ h
    | skip => exact hK _ _ h
    | enter f args =>
      refine Calls.mono h fun e w'' he => ?_
      obtain ⟨v, rfl, hv⟩ := he
      exact hK _ _ hv
    | _ => exact h.elim
  | halt x w' => exact h.elim

theorem ops_sound (hT : TyOk P E.ty) (hC : CallOk P call) {ops : Array Oper} {N : Nat} {Q : Exit → Act → World → Prop} : ∀ (l : List Oper) (is : List Nat), is.map (ops[·]?) = l.map some → (∀ o ∈ l, dstOk N o = true) →
    ∀ {L : Loc} {R : Rom} {H : Hp} {w : World} {env : Tr AV} {a : Act}, Sim L R H w → EnvR L R N env a → evOps E call ops l env H = some (env', H') →
    (∀ a' w', Went L R N H w env' H' a' w' → Q .normal a' w') → wpOps P ops Q is a w := by
  intro l
  induction l with
  | nil =>
    intro is his hd L R H w env a hS hE h hQ
    cases is with
    | cons i is => simp at his
    | nil =>
      simp [evOps] at h; obtain ⟨rfl, rfl⟩ := h
      exact hQ _ _ ⟨L, R, .refl _ _ _ _, hS, hE⟩
  | cons o l ih =>
    intro is his hd L R H w env a hS hE h hQ
    cases is with
    | nil => simp at his
    | cons i is =>
      simp only [List.map_cons, List.cons.injEq] at his
      obtain ⟨ho, his⟩ := his
      simp only [wpOps, ho]
      unfold evOps at h
      have hdl : ∀ o ∈ l, dstOk N o = true := fun x hx => hd x (by simp [hx])
      have hdo : dstOk N o = true := hd o (by simp)
      split at h
      · rename_i hw
        rw [wanted_sound hE hw, if_pos rfl]
        split at h
        · rename_i v H1 hev
          refine .inl (Oper.wp_of_runs (op_sound hT hC hS (hE.er _) hev) fun x w' hJ => ?_)
          obtain ⟨L', R', s1, s2, s3⟩ := hJ
          refine ih is his hdl s2 ((hE.mono s1.ext s1.rext).put hdo s3) h fun a' w'' hW => hQ _ _ ?_
          obtain ⟨L2, R2, t1, t2, t3⟩ := hW
          exact ⟨L2, R2, s1.trans hS.dom t1, t2, t3⟩
        · simp at h
      · rename_i hw
        rw [wanted_sound hE hw, if_neg (by simp)]
        exact ih is his hdl hS (hE.put hdo (.tup [] #[] rfl (by simp))) h hQ
      · simp at h

theorem range_ops (ops : Array Oper) : (List.range ops.size).map (ops[·]?) = ops.toList.map some := by
  refine List.ext_getElem? fun i => ?_
  simp only [List.getElem?_map]
  by_cases hi : i < ops.size
  · simp [hi]
  · simp [hi]

end Go.Ab
