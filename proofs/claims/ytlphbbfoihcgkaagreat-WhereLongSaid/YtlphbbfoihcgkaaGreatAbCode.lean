/- Part of the proof over the seat YtlphbbfoihcgkaaGreat: AbCode. No conditions of its own. -/
import Derived.Test.YtlphbbfoihcgkaaGreatAbSeq
namespace Go.Ab
variable {P : Program} {E : Env} {call : CallF}

/-- Of a statement whose order is open. -/
def DrawOk (P : Program) (E : Env) (call : CallF) : Prop :=
  ∀ {N : Nat} {id : Nat} {ops : Array Oper} {Q : Exit → Act → World → Prop} {L : Loc} {R : Rom} {H H' : Hp} {w : World} {env env' : Tr AV} {a : Act},
    (∀ o ∈ ops.toList, dstOk N o = true) → Sim L R H w → EnvR L R N env a → evDraw E call ops env H = some (env', H') →
    (∀ a' w', Went L R N H w env' H' a' w' → Q .normal a' w') → (Code.region id ops true).wp P Q a w

def exitOf : Out → Exit
  | .normal => .normal
  | .exit id => .exit id
  | .ret => .ret

def dstsOk (N : Nat) : Code → Bool
  | .region _ ops _ => ops.toList.all (dstOk N)
  | .seq a b => dstsOk N a && dstsOk N b
  | .cond _ a b => dstsOk N a && dstsOk N b
  | .block _ a => dstsOk N a
  | .loop a => dstsOk N a
  | _ => true

def CodeOk (P : Program) (N : Nat) (c : Code) (f : Tr AV → Hp → Option (Out × Tr AV × Hp)) : Prop :=
  ∀ {Q : Exit → Act → World → Prop} {L : Loc} {R : Rom} {H H' : Hp} {w : World} {env env' : Tr AV} {a : Act} {out : Out},
    Sim L R H w → EnvR L R N env a → f env H = some (out, env', H') →
    (∀ a' w', Went L R N H w env' H' a' w' → Q (exitOf out) a' w') → c.wp P Q a w

theorem Went.trans {L L1 : Loc} {R R1 : Rom} {N : Nat} {H H1 H2 : Hp} {w w1 w2 : World} {env : Tr AV} {a : Act} (hS : Sim L R H w) (s : Step L R H w L1 R1 H1 w1)
    (h : Went L1 R1 N H1 w1 env H2 a w2) : Went L R N H w env H2 a w2 := by
  obtain ⟨L2, R2, t1, t2, t3⟩ := h
  exact ⟨L2, R2, s.trans hS.dom t1, t2, t3⟩

theorem rounds_sound {N : Nat} {c : Code} {f : Tr AV → Hp → Option (Out × Tr AV × Hp)} (hc : CodeOk P N c f) : ∀ (n : Nat) {Q : Exit → Act → World → Prop} {L : Loc} {R : Rom} {H H' : Hp} {w : World} {env env' : Tr AV} {a : Act} {out : Out},
    Sim L R H w → EnvR L R N env a → evLoop f n env H = some (out, env', H') →
    (∀ a' w', Went L R N H w env' H' a' w' → Q (exitOf out) a' w') → out ≠ .normal → Code.rounds P c Q n a w := by
  intro n
  induction n with
  | zero => intro Q L R H H' w env env' a out hS hE h; simp [evLoop] at h
  | succ n ih =>
    intro Q L R H H' w env env' a out hS hE h hQ hn
    rw [rounds_succ]
    unfold evLoop at h
    split at h
    · rename_i env1 H1 hf
      refine hc hS hE hf fun a1 w1 hW => ?_
      obtain ⟨L1, R1, s1, s2, s3⟩ := hW
      exact ih s2 s3 h (fun a' w' hW => hQ a' w' (hW.trans hS s1)) hn
    · rename_i r hr
      refine hc hS hE h fun a1 w1 hW => ?_
      have := hQ a1 w1 hW
      cases out <;> first | exact absurd rfl hn | exact this

theorem evLoop_out {f : Tr AV → Hp → Option (Out × Tr AV × Hp)} : ∀ (n : Nat) {env : Tr AV} {H : Hp} {env' : Tr AV} {H' : Hp}, evLoop f n env H ≠ some (.normal, env', H') := by
  intro n
  induction n with
  | zero => intro env H env' H' h; simp [evLoop] at h
  | succ n ih =>
    intro env H env' H' h
    unfold evLoop at h
    split at h
    · exact ih h
    · rename_i hr
      exact hr _ _ h

theorem code_sound (hT : TyOk P E.ty) (hC : CallOk P call) (hD : DrawOk P E call) {N rounds : Nat} : ∀ c : Code, dstsOk N c = true → CodeOk P N c (ev E call rounds c) := by
  intro c
  induction c with
  | skip =>
    intro _ Q L R H H' w env env' a out hS hE h hQ
    simp [ev] at h; obtain ⟨rfl, rfl, rfl⟩ := h
    exact wp_skip (hQ _ _ ⟨L, R, .refl _ _ _ _, hS, hE⟩)
  | label l =>
    intro _ Q L R H H' w env env' a out hS hE h hQ
    simp [ev] at h; obtain ⟨rfl, rfl, rfl⟩ := h
    exact wp_label (hQ _ _ ⟨L, R, .refl _ _ _ _, hS, hE⟩)
  | exit i =>
    intro _ Q L R H H' w env env' a out hS hE h hQ
    simp [ev] at h; obtain ⟨rfl, rfl, rfl⟩ := h
    exact wp_exit (hQ _ _ ⟨L, R, .refl _ _ _ _, hS, hE⟩)
  | ret =>
    intro _ Q L R H H' w env env' a out hS hE h hQ
    simp [ev] at h; obtain ⟨rfl, rfl, rfl⟩ := h
    exact wp_ret (hQ _ _ ⟨L, R, .refl _ _ _ _, hS, hE⟩)
  | region id ops draw =>
    intro hd Q L R H H' w env env' a out hS hE h hQ
    have hd' : ∀ o ∈ ops.toList, dstOk N o = true := List.all_eq_true.1 hd
    cases draw with
    | true =>
      simp only [ev] at h
      split at h
      · rename_i env1 H1 hev
        simp at h; obtain ⟨rfl, rfl, rfl⟩ := h
        exact hD hd' hS hE hev hQ
      · simp at h
    | false =>
      simp only [ev] at h
      split at h
      · rename_i env1 H1 hev
        simp at h; obtain ⟨rfl, rfl, rfl⟩ := h
        exact wp_region (ops_sound hT hC _ _ (range_ops ops) hd' hS hE hev hQ)
      · simp at h
  | seq x y ihx ihy =>
    intro hd Q L R H H' w env env' a out hS hE h hQ
    simp only [dstsOk, Bool.and_eq_true] at hd
    simp only [ev] at h
    refine wp_seq ?_
    split at h
    · rename_i env1 H1 hx
      refine ihx hd.1 hS hE hx fun a1 w1 hW => ?_
      obtain ⟨L1, R1, s1, s2, s3⟩ := hW
      exact ihy hd.2 s2 s3 h (fun a' w' hW => hQ a' w' (hW.trans hS s1))
    · rename_i r hr
      refine ihx hd.1 hS hE h fun a1 w1 hW => ?_
      have := hQ a1 w1 hW
      cases out <;> first | exact this | exact absurd h (hr _ _)
  | cond c x y ihx ihy =>
    intro hd Q L R H H' w env env' a out hS hE h hQ
    simp only [dstsOk, Bool.and_eq_true] at hd
    simp only [ev] at h
    split at h
    · rename_i hc
      have hv := hE.eval c _ hc
      generalize hq : a.eval c = cv at hv
      cases hv
      exact wp_cond_true hq (ihx hd.1 hS hE h hQ)
    · rename_i hc
      have hv := hE.eval c _ hc
      generalize hq : a.eval c = cv at hv
      cases hv
      exact wp_cond_false hq (ihy hd.2 hS hE h hQ)
    · simp at h
  | block id x ih =>
    intro hd Q L R H H' w env env' a out hS hE h hQ
    simp only [dstsOk] at hd
    simp only [ev] at h
    refine wp_block ?_
    split at h
    · rename_i i env1 H1 hx
      split at h
      · rename_i hi
        simp at h; obtain ⟨rfl, rfl, rfl⟩ := h
        refine ih hd hS hE hx fun a1 w1 hW => ?_
        simp only [exitOf, Exit.inBlock, if_pos (Nat.eq_of_beq_eq_true hi)]
        exact hQ _ _ hW
      · rename_i hi
        simp at h; obtain ⟨rfl, rfl, rfl⟩ := h
        refine ih hd hS hE hx fun a1 w1 hW => ?_
        have hne : i ≠ id := by rintro rfl; simp at hi
        simp only [exitOf, Exit.inBlock, if_neg hne]
        exact hQ _ _ hW
    · rename_i r hr
      refine ih hd hS hE h fun a1 w1 hW => ?_
      have := hQ a1 w1 hW
      cases out <;> first | exact this | exact absurd h (hr _ _ _)
  | loop x ih =>
    intro hd Q L R H H' w env env' a out hS hE h hQ
    simp only [dstsOk] at hd
    simp only [ev] at h
    refine wp_loop_rounds rounds (rounds_sound (ih hd) rounds hS hE h hQ ?_)
    rintro rfl
    exact evLoop_out _ h
  | _ =>
    intro hd Q L R H H' w env env' a out hS hE h hQ
    simp [ev] at h

end Go.Ab
