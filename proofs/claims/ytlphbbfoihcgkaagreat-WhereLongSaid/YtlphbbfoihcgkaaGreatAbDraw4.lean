/- Part of the proof over the seat YtlphbbfoihcgkaaGreat: AbDraw4. No conditions of its own. -/
import Derived.Test.YtlphbbfoihcgkaaGreatAbDraw3
namespace Go.Ab
variable {P : Program} {E : Env} {call : CallF} {ops : Array Oper}

structure Setup (E : Env) (call : CallF) (ops : Array Oper) (T : List Ent) (env0 : Tr AV) (H0 : Hp) (env' : Tr AV) (H' : Hp) (anc : List Nat) : Prop where
  chain : Chain E call ops T env0 H0 env' H'
  places : ∀ (p : Nat) (x : Ent), T[p]? = some x → PlaceOk E anc T p x
  all : ∀ j, j < ops.size → ∃ (q : Nat) (y : Ent), T[q]? = some y ∧ y.i = j
  tm : TmpsOk ops anc
  anc : anc = ancs ops.toList []

theorem setup {env0 env' : Tr AV} {H0 H' : Hp} (h : evDraw E call ops env0 H0 = some (env', H')) : ∃ T anc, Setup E call ops T env0 H0 env' H' anc := by
  unfold evDraw at h
  dsimp only at h
  split at h
  · rename_i ht
    split at h
    · rename_i t r htr
      split at h
      · rename_i ho
        cases h
        obtain ⟨h1, h2⟩ := order_places ho
        refine ⟨t, _, trace_chain _ htr, h1, fun j hj => h2 j ?_, tmps_ok ht, rfl⟩
        rw [ancs_length]; simpa using hj
      · simp at h
    · simp at h
  · simp at h

section
variable {T : List Ent} {env0 env' : Tr AV} {H0 H' : Hp} {anc : List Nat} (hs : Setup E call ops T env0 H0 env' H' anc)
include hs

theorem Setup.inj {p q : Nat} {x y : Ent} (h : T[p]? = some x) (k : T[q]? = some y) (e : x.i = y.i) : p = q := by
  rcases Nat.lt_trichotomy p q with hl | hl | hl
  · exact absurd e ((hs.places q y k).fresh p x hl h)
  · exact hl
  · exact absurd e.symm ((hs.places p x h).fresh q y hl k)

theorem Setup.writer {p : Nat} {x : Ent} (h : T[p]? = some x) {d : Tmp} (hd : x.o.dst = some d) : writerOf d ops.toList 0 = some x.i := hs.tm.one _ _ _ (hs.chain.ent p x h).op hd

theorem Setup.place {t : Tmp} {j : Nat} (h : writerOf t ops.toList 0 = some j) : ∃ (q : Nat) (y : Ent), T[q]? = some y ∧ y.i = j ∧ y.o.dst = some t := by
  obtain ⟨o, h1, _, h3⟩ := writerOf_some h
  simp only [Nat.sub_zero, Array.getElem?_toList] at h1
  have hj : j < ops.size := by
    rcases Nat.lt_or_ge j ops.size with hl | hl
    · exact hl
    · rw [Array.getElem?_eq_none hl] at h1; cases h1
  obtain ⟨q, y, hq, hy⟩ := hs.all j hj
  refine ⟨q, y, hq, hy, ?_⟩
  have := (hs.chain.ent q y hq).op
  rw [hy, h1] at this
  cases this; exact h3

/-- What holds when so many are done. -/
structure Inv (N : Nat) (L0 : Loc) (R0 : Rom) (w0 : World) (f : Nat) (L : Loc) (R : Rom) (S : Nat → Prop) (a : Act) (w : World) : Prop where
  closed : ∀ i, S i → ∀ j, bit (anc.getD i 0) j = true → S j
  effs : ∀ (q : Nat) (x : Ent), q < f → T[q]? = some x → x.eff E = true → S x.i
  ahead : ∀ (q : Nat) (x : Ent), f ≤ q → T[q]? = some x → ¬ S x.i
  le : f ≤ T.length
  sim : Sim L R (hpAt T H' f) w
  step : Step L0 R0 H0 w0 L R (hpAt T H' f) w
  frs : ∀ q, q < f → Fr (hpAt T H' q) (hpAt T H' (q + 1))
  unm : ∀ (q : Nat) (x : Ent), q < f → T[q]? = some x → ¬ S x.i → x.wt = true → ∀ g blk, kindOf E x.o.op = .al → evA E x.env x.o.op = some (g, blk) →
    L x.H.n = none ∧ (hpAt T H' f).get x.H.n = blk ∧ x.H.n < (hpAt T H' f).n
  defers : a.defers = []
  size : N ≤ a.tmps.size
  tDone : ∀ (q : Nat) (x : Ent) (d : Tmp), T[q]? = some x → S x.i → x.o.dst = some d → VR L R x.v (a.tmps.getD d undef)
  tOld : ∀ t v, env0.get t = some v → (∀ j, writerOf t ops.toList 0 = some j → ¬ S j) → VR L R v (a.tmps.getD t undef)

omit hs in
theorem Inv.frTo {N : Nat} {L0 : Loc} {R0 : Rom} {w0 : World} {f : Nat} {L : Loc} {R : Rom} {S : Nat → Prop} {a : Act} {w : World}
    (h : Inv (E := E) (ops := ops) (T := T) (env0 := env0) (H0 := H0) (H' := H') (anc := anc) N L0 R0 w0 f L R S a w) {p : Nat} : ∀ r, p ≤ r → r ≤ f → Fr (hpAt T H' p) (hpAt T H' r) := by
  intro r
  induction r with
  | zero => intro h1 _; rw [show p = 0 by omega]; exact .refl _
  | succ r ih =>
    intro h1 h2
    by_cases e : p = r + 1
    · subst e; exact .refl _
    · exact (ih (by omega) (by omega)).trans (h.frs r (by omega))

theorem Setup.mono {p : Nat} {x : Ent} (h : T[p]? = some x) : hpAt T H' p = x.H ∧ envAt T env' p = x.env ∧ hpAt T H' (p + 1) = x.H' :=
  ⟨by simp [hpAt, h], by simp [envAt, h], hs.chain.hpS p x h⟩

/-- On to the next that writes. -/
theorem Setup.advance {N : Nat} {L0 : Loc} {R0 : Rom} {w0 : World} {L : Loc} {R : Rom} {S : Nat → Prop} {a : Act} {w : World} : ∀ (k f : Nat), T.length - f = k →
    Inv (E := E) (ops := ops) (T := T) (env0 := env0) (H0 := H0) (H' := H') (anc := anc) N L0 R0 w0 f L R S a w →
    ∃ f', Inv (E := E) (ops := ops) (T := T) (env0 := env0) (H0 := H0) (H' := H') (anc := anc) N L0 R0 w0 f' L R S a w ∧ ∀ x, T[f']? = some x → x.eff E = true := by
  intro k
  induction k with
  | zero =>
    intro f hk h
    refine ⟨f, h, fun x hx => ?_⟩
    rw [List.getElem?_eq_none (by omega)] at hx; cases hx
  | succ k ih =>
    intro f hk h
    have hx : T[f]? = some T[f] := by simp [show f < T.length by omega]
    generalize T[f] = x at hx
    by_cases he : x.eff E = true
    · exact ⟨f, h, fun y hy => by rw [hx] at hy; cases hy; exact he⟩
    · obtain ⟨e1, e2, e3⟩ := hs.mono hx
      have ent := hs.chain.ent f x hx
      have hcase : (hpAt T H' (f + 1) = hpAt T H' f ∧ ¬ (x.wt = true ∧ kindOf E x.o.op = .al)) ∨ (∃ g blk, x.wt = true ∧ kindOf E x.o.op = .al ∧ evA E x.env x.o.op = some (g, blk) ∧ hpAt T H' (f + 1) = (hpAt T H' f).push blk) := by
        rw [e3, e1]
        cases hw : x.wt with
        | false => exact .inl ⟨(ent.no hw).2, by simp⟩
        | true =>
          have hev := ent.yes hw
          unfold evOp at hev
          split at hev
          · rename_i hk
            split at hev
            · simp at hev; exact .inl ⟨hev.2.symm, by simp [hk]⟩
            · simp at hev
          · rename_i hk
            split at hev
            · rename_i g blk hg
              simp at hev; exact .inr ⟨g, blk, rfl, hk, hg, hev.2.symm⟩
            · simp at hev
          · rename_i hk
            exact absurd (by simp [Ent.eff, hw, hk]) he
      refine ih (f + 1) (by omega) ?_
      rcases hcase with ⟨hh, hna⟩ | ⟨g, blk, hw, hk, hg, hh⟩
      · refine ⟨h.closed, fun q y hq hy hye => ?_, fun q y hq hy => h.ahead q y (by omega) hy, by omega, by rw [hh]; exact h.sim, by rw [hh]; exact h.step, fun q hq => ?_, fun q y hq hy hns hyw g blk hk hg => ?_, h.defers, h.size, h.tDone, h.tOld⟩
        · by_cases e : q = f
          · subst e; rw [hx] at hy; cases hy; exact absurd hye he
          · exact h.effs q y (by omega) hy hye
        · by_cases e : q = f
          · subst e; rw [hh]; exact .refl _
          · exact h.frs q (by omega)
        · by_cases e : q = f
          · subst e; rw [hx] at hy; cases hy; exact absurd ⟨hyw, hk⟩ hna
          · rw [hh]; exact h.unm q y (by omega) hy hns hyw g blk hk hg
      · refine ⟨h.closed, fun q y hq hy hye => ?_, fun q y hq hy => h.ahead q y (by omega) hy, by omega, by rw [hh]; exact h.sim.push_unm _, by rw [hh]; exact h.step.push_unm _, fun q hq => ?_, fun q y hq hy hns hyw g' blk' hk' hg' => ?_, h.defers, h.size, h.tDone, h.tOld⟩
        · by_cases e : q = f
          · subst e; rw [hx] at hy; cases hy; exact absurd hye he
          · exact h.effs q y (by omega) hy hye
        · by_cases e : q = f
          · subst e; rw [hh]; exact .push _ _
          · exact h.frs q (by omega)
        · rw [hh]
          by_cases e : q = f
          · subst e; rw [hx] at hy; cases hy
            rw [hg] at hg'; cases hg'
            rw [← e1]
            refine ⟨?_, by rw [Hp.get_push, if_pos rfl], by simp⟩
            cases hl : L (hpAt T H' q).n with
            | none => rfl
            | some z => exact absurd (h.sim.dom _ _ hl) (Nat.lt_irrefl _)
          · obtain ⟨u1, u2, u3⟩ := h.unm q y (by omega) hy hns hyw g' blk' hk' hg'
            refine ⟨u1, ?_, by simp; omega⟩
            rw [Hp.get_push, if_neg (by omega)]; exact u2

end
end Go.Ab
