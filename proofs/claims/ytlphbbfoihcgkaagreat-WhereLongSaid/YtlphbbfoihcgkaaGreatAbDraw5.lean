/- Part of the proof over the seat YtlphbbfoihcgkaaGreat: AbDraw5. No conditions of its own. -/
import Derived.Test.YtlphbbfoihcgkaaGreatAbDraw4
namespace Go.Ab
variable {P : Program} {E : Env} {call : CallF} {ops : Array Oper}

theorem er_uses {L : Loc} {R : Rom} {o : Oper} {env : Tr AV} {a : Act} (h : ∀ t ∈ usesOf ops o, ∀ v, env.get t = some v → VR L R v (a.tmps.getD t undef)) : ER L R env a.eval o.op.operands.toList := by
  intro x hx v e
  cases x with
  | tmp t =>
    simp only [opnd] at e
    split at e
    · rename_i u hu
      cases e
      refine h t ?_ v hu
      simp only [usesOf, List.mem_append, List.mem_filterMap]
      exact .inl ⟨_, hx, rfl⟩
    · cases e; exact .undef _
  | const c => exact VR.ofConst e
  | global g => simp [opnd] at e
  | func f => simp only [opnd] at e; cases e; exact .fn f [] #[] rfl (by simp)

theorem wanted_uses {L : Loc} {R : Rom} {o : Oper} {env : Tr AV} {a : Act} (h : ∀ t ∈ usesOf ops o, ∀ v, env.get t = some v → VR L R v (a.tmps.getD t undef)) {b : Bool} (e : wanted o ops env = some b) : Region.wanted o (yielded ops a.tmps) = b := by
  unfold wanted at e
  unfold Region.wanted
  cases hg : o.guard with
  | none => rw [hg] at e; simpa using e
  | some jb =>
    obtain ⟨j, want⟩ := jb
    rw [hg] at e
    simp only at e ⊢
    unfold yielded
    split at e
    · rename_i d hd
      have hm : d ∈ usesOf ops o := by
        simp only [usesOf, List.mem_append, hg, hd]
        exact .inr (by simp)
      rw [hd]
      simp only [Option.bind_some]
      split at e
      · rename_i c hc
        have hv := h d hm _ hc
        have hv' : a.tmps[d]? = some (.bool c) := by
          rw [Array.getD_eq_getD_getElem?] at hv
          cases hq : a.tmps[d]? with
          | none => rw [hq] at hv; simp [undef] at hv; cases hv
          | some x => rw [hq] at hv; simp at hv; cases hv; rfl
        rw [hv']
        simp at e
        cases want <;> cases c <;> simp_all
      · rename_i hc
        have hv := h d hm _ hc
        simp at e; subst e
        rw [Array.getD_eq_getD_getElem?] at hv
        cases hq : a.tmps[d]? with
        | none => simp
        | some x => rw [hq] at hv; simp at hv; cases hv; simp
      · simp at e
    · rename_i hd
      rw [hd]
      simp at e; subst e; simp

section
variable {T : List Ent} {env0 env' : Tr AV} {H0 H' : Hp} {anc : List Nat} (hs : Setup E call ops T env0 H0 env' H' anc)
  {N : Nat} {L0 : Loc} {R0 : Rom} {w0 : World} {f : Nat} {L : Loc} {R : Rom} {S : Nat → Prop} {a : Act} {w : World}
  (hi : Inv (E := E) (ops := ops) (T := T) (env0 := env0) (H0 := H0) (H' := H') (anc := anc) N L0 R0 w0 f L R S a w)
  {p : Nat} {x : Ent} (hx : T[p]? = some x) (hns : ¬ S x.i) (hr : ∀ j, bit (anc.getD x.i 0) j = true → S j)
include hs hi hx hns hr

theorem Setup.used : ∀ t ∈ usesOf ops x.o, ∀ v, x.env.get t = some v → VR L R v (a.tmps.getD t undef) := by
  intro t ht v hv
  have hxe := (hs.mono hx).2.1
  have hlp : p < T.length := by
    rcases Nat.lt_or_ge p T.length with h | h
    · exact h
    · rw [List.getElem?_eq_none h] at hx; cases hx
  cases hw : writerOf t ops.toList 0 with
  | none =>
    have : (envAt T env' p).get t = env0.get t := by
      refine chain_old hs.chain p (by omega) fun q y hq hy hd => ?_
      have := hs.writer hy hd
      rw [hw] at this; cases this
    rw [hxe, hv] at this
    exact hi.tOld t v this.symm (fun j hj => by rw [hw] at hj; cases hj)
  | some j =>
    obtain ⟨q, y, hq, hyj, hyd⟩ := hs.place hw
    have old : ¬ S j → (∀ r, r < p → r ≠ q) → VR L R v (a.tmps.getD t undef) := by
      intro hnj hne
      have : (envAt T env' p).get t = env0.get t := by
        refine chain_old hs.chain p (by omega) fun r z hrr hz hd => ?_
        have := hs.writer hz hd
        rw [hw] at this; cases this
        exact hne r hrr (hs.inj hz hq hyj.symm)
      rw [hxe, hv] at this
      exact hi.tOld t v this.symm (fun j' hj' => by rw [hw] at hj'; cases hj'; exact hnj)
    rcases hs.tm.use x.i x.o t j (hs.chain.ent p x hx).op ht hw with e | e | e
    · subst e
      have : q = p := hs.inj hq hx hyj
      exact old hns (fun r hrp => by omega)
    · have hSj := hr j e
      obtain ⟨q', y', hq', hy', hyi'⟩ := (hs.places p x hx).sub j e
      obtain rfl : q = q' := hs.inj hq hy' (hyj.trans hyi'.symm)
      have : (envAt T env' p).get t = some y.v := by
        refine chain_new hs.chain hq hyd p (by omega) hq' fun r z hrr hz hd => ?_
        have := hs.writer hz hd
        rw [hw] at this; cases this
        have := hs.inj hz hq hyj.symm
        omega
      rw [hxe, hv] at this
      cases this
      exact hi.tDone q y t hq (hyj ▸ hSj) hyd
    · have hnj : ¬ S j := fun h => hns (hi.closed j h _ e)
      rw [← hyj] at e
      obtain ⟨q', y', hq', hy', hyi'⟩ := (hs.places q y hq).sub _ e
      obtain rfl : p = q' := hs.inj hx hy' hyi'.symm
      exact old hnj (fun r hrp => by omega)

theorem Setup.front (hh : ∀ x, T[f]? = some x → x.eff E = true) : p < f ∨ (p = f ∧ x.eff E = true) := by
  have _ := hns
  rcases Nat.lt_trichotomy p f with h | h | h
  · exact .inl h
  · subst h; exact .inr ⟨rfl, hh x hx⟩
  · exfalso
    have hlp : p < T.length := by
      rcases Nat.lt_or_ge p T.length with h | h
      · exact h
      · rw [List.getElem?_eq_none h] at hx; cases hx
    have hy : T[f]? = some T[f] := by simp [show f < T.length by omega]
    generalize T[f] = y at hy
    have hye := hh y hy
    have hxi : x.i < anc.length := by
      rw [hs.anc, ancs_length]
      have := (hs.chain.ent p x hx).op
      rcases Nat.lt_or_ge x.i ops.size with hl | hl
      · simpa using hl
      · rw [Array.getElem?_eq_none hl] at this; cases this
    rcases (hs.places f y hy).later hye x.i hxi with e | ⟨q, z, hq, hz, e⟩ | e
    · have := hs.inj hx hy e; omega
    · have := hs.inj hz hx e; omega
    · exact hi.ahead f y (Nat.le_refl _) hy (hr _ e)

theorem Setup.putDone (hd : dstOk N x.o = true) {L' : Loc} {R' : Rom} (hL : ∀ b y, L b = some y → L' b = some y) (hR : ∀ c o v, R c o = some v → R' c o = some v) {val : Value} (hv : VR L' R' x.v val) :
    (∀ (q : Nat) (y : Ent) (d : Tmp), T[q]? = some y → (S y.i ∨ y.i = x.i) → y.o.dst = some d → VR L' R' y.v ((a.put x.o.dst val).tmps.getD d undef)) ∧
    (∀ t v, env0.get t = some v → (∀ j, writerOf t ops.toList 0 = some j → ¬ (S j ∨ j = x.i)) → VR L' R' v ((a.put x.o.dst val).tmps.getD t undef)) ∧
    N ≤ (a.put x.o.dst val).tmps.size ∧ (a.put x.o.dst val).defers = [] := by
  have _ := hns
  have _ := hr
  have other : ∀ d, x.o.dst ≠ some d → (a.put x.o.dst val).tmps.getD d undef = a.tmps.getD d undef := by
    intro d hd
    cases hxd : x.o.dst with
    | none => rfl
    | some d' =>
      have hne : d' ≠ d := by rintro rfl; exact hd hxd
      simp only [Act.put, Array.getD_eq_getD_getElem?, Array.getElem?_setIfInBounds, if_neg hne]
  have self : ∀ d, x.o.dst = some d → (a.put x.o.dst val).tmps.getD d undef = val := by
    intro d hxd
    rw [dstOk, hxd] at hd
    have hd' : d < N := blt_iff.1 hd
    rw [hxd]
    simp only [Act.put, Array.getD_eq_getD_getElem?, Array.getElem?_setIfInBounds, if_true, if_pos (Nat.lt_of_lt_of_le hd' hi.size), Option.getD_some]
  refine ⟨fun q y d hq hy hyd => ?_, fun t v e hj => ?_, ?_, ?_⟩
  · by_cases hqx : x.o.dst = some d
    · have h1 := hs.writer hx hqx
      have h2 := hs.writer hq hyd
      rw [h1] at h2
      have := hs.inj hq hx (Option.some.inj h2).symm
      subst this
      rw [hx] at hq; cases hq
      rw [self d hqx]; exact hv
    · rw [other d hqx]
      rcases hy with hy | hy
      · exact (hi.tDone q y d hq hy hyd).mono hL hR
      · have := hs.inj hq hx hy
        subst this
        rw [hx] at hq; cases hq
        exact absurd hyd hqx
  · have hqx : x.o.dst ≠ some t := fun h => hj _ (hs.writer hx h) (.inr rfl)
    rw [other t hqx]
    exact (hi.tOld t v e (fun j h k => hj j h (.inl k))).mono hL hR
  · cases x.o.dst <;> simp [Act.put, hi.size]
  · cases x.o.dst <;> simp [Act.put, hi.defers]

theorem Setup.still (hpf : p < f) (hw : x.wt = true) (hk : kindOf E x.o.op = .pl) {b : Nat} (hb : readsOf x.env x.o.op = some b) : ∀ r, p ≤ r → r ≤ f → (hpAt T H' r).get b = x.H.get b := by
  have _ := hr
  have _ := hpf
  have hbn := (hs.places p x hx).read hw b hb
  intro r
  induction r with
  | zero => intro h _; rw [show (0 : Nat) = p by omega, (hs.mono hx).1]
  | succ r ih =>
    intro h1 h2
    by_cases e : p = r + 1
    · rw [← e, (hs.mono hx).1]
    · rw [← ih (by omega) (by omega)]
      have hlr : r < T.length := by have := hi.le; omega
      have hy : T[r]? = some T[r] := by simp [hlr]
      generalize T[r] = y at hy
      obtain ⟨e1, e2, e3⟩ := hs.mono hy
      have ent := hs.chain.ent r y hy
      have hn : b < (hpAt T H' r).n := by
        have := (hi.frTo (p := p) r (by omega) (by omega)).n
        rw [(hs.mono hx).1] at this
        omega
      rw [e3, e1]
      rw [e1] at hn
      cases hyw : y.wt with
      | false => rw [(ent.no hyw).2]
      | true =>
        have hev := ent.yes hyw
        unfold evOp at hev
        split at hev
        · split at hev
          · simp at hev; rw [hev.2]
          · simp at hev
        · split at hev
          · simp at hev; rw [← hev.2, Hp.get_push, if_neg (by omega)]
          · simp at hev
        · rename_i hyk
          have hye : y.eff E = true := by simp [Ent.eff, hyw, hyk]
          have hSy := hi.effs r y (by omega) hy hye
          by_cases hrp : p = r
          · subst hrp; rw [hx] at hy; cases hy; rw [hk] at hyk; cases hyk
          · rcases (hs.places r y hy).still hye p x (by omega) hx hw b hb with e | ⟨_, e⟩
            · exact absurd (hi.closed _ hSy _ e) hns
            · have := ((hi.frs r (by omega)).same b (by rw [e1]; exact hn) (by rw [e3, e1]; exact e)).1
              rw [e3, e1] at this
              exact this

end
end Go.Ab
