/- Part of the proof over the seat YtlphbbfoihcgkaaGreat: AbDraw6. No conditions of its own. -/
import Derived.Test.YtlphbbfoihcgkaaGreatAbDraw5
namespace Go.Ab
variable {P : Program} {E : Env} {call : CallF} {ops : Array Oper}

section
variable {T : List Ent} {env0 env' : Tr AV} {H0 H' : Hp} {anc : List Nat} (hs : Setup E call ops T env0 H0 env' H' anc)
  {N : Nat} {L0 : Loc} {R0 : Rom} {w0 : World} {f : Nat} {L : Loc} {R : Rom} {S : Nat → Prop} {a : Act} {w : World}

/-- A state in which so many are done and the next one, if any, writes. -/
def At (E : Env) (ops : Array Oper) (T : List Ent) (env0 : Tr AV) (H0 H' : Hp) (anc : List Nat) (N : Nat) (L0 : Loc) (R0 : Rom) (w0 : World) (S : Nat → Prop) (a : Act) (w : World) : Prop :=
  ∃ f L R, Inv (E := E) (ops := ops) (T := T) (env0 := env0) (H0 := H0) (H' := H') (anc := anc) N L0 R0 w0 f L R S a w ∧ ∀ x, T[f]? = some x → x.eff E = true

include hs in
theorem Setup.exec (hT : TyOk P E.ty) (hC : CallOk P call) (hd0 : ∀ b x, L0 b = some x → b < H0.n)
    (hat : At E ops T env0 H0 H' anc N L0 R0 w0 S a w) {p : Nat} {x : Ent} (hx : T[p]? = some x) (hns : ¬ S x.i) (hr : ∀ j, bit (anc.getD x.i 0) j = true → S j) (hd : dstOk N x.o = true)
    {K : Act → World → Prop} {Q : Exit → Act → World → Prop} (hK : ∀ a' w', At E ops T env0 H0 H' anc N L0 R0 w0 (fun i => S i ∨ i = x.i) a' w' → K a' w') : wpOp P ops Q x.i K a w := by
  obtain ⟨f, L, R, hi, hh⟩ := hat
  have ent := hs.chain.ent p x hx
  have hused := hs.used hi hx hns hr
  have hER : ER L R x.env a.eval x.o.op.operands.toList := er_uses hused
  have hwt := wanted_uses hused ent.wt
  have hfront := hs.front hi hx hns hr hh
  obtain ⟨e1, e2, e3⟩ := hs.mono hx
  -- closed
  have hclosed : ∀ i, (S i ∨ i = x.i) → ∀ j, bit (anc.getD i 0) j = true → (S j ∨ j = x.i) := by
    intro i h j hj
    rcases h with h | rfl
    · exact .inl (hi.closed i h j hj)
    · exact .inl (hr j hj)
  -- one that writes nothing
  have quiet : p < f → ∀ {L' : Loc} {w' : World} {val : Value}, (∀ b y, L b = some y → L' b = some y) → Sim L' R (hpAt T H' f) w' → Step L0 R0 H0 w0 L' R (hpAt T H' f) w' → VR L' R x.v val →
      (∀ (q : Nat) (y : Ent), q ≠ p → T[q]? = some y → ¬ S y.i → y.wt = true → kindOf E y.o.op = .al → ∀ g blk, evA E y.env y.o.op = some (g, blk) → q < f → L' y.H.n = none) → x.eff E = false →
      At E ops T env0 H0 H' anc N L0 R0 w0 (fun i => S i ∨ i = x.i) (a.put x.o.dst val) w' := by
    intro hpf L' w' val hL hS hSt hv hun hne
    obtain ⟨k1, k2, k3, k4⟩ := hs.putDone hi hx hns hr hd hL (fun _ _ _ h => h) hv
    refine ⟨f, L', R, ⟨hclosed, fun q y hq hy hye => .inl (hi.effs q y hq hy hye), fun q y hq hy h => ?_, hi.le, hS, hSt, hi.frs, fun q y hq hy hny hyw g blk hk hg => ?_, k4, k3, k1, k2⟩, hh⟩
    · rcases h with h | h
      · exact hi.ahead q y hq hy h
      · have := hs.inj hy hx h; omega
    · obtain ⟨u1, u2, u3⟩ := hi.unm q y hq hy (fun h => hny (.inl h)) hyw g blk hk hg
      refine ⟨hun q y ?_ hy (fun h => hny (.inl h)) hyw hk g blk hg hq, u2, u3⟩
      rintro rfl
      rw [hx] at hy; cases hy
      exact hny (.inr rfl)
  have hqz : ∀ (q : Nat) (y : Ent), q ≠ p → T[q]? = some y → ¬ S y.i → y.wt = true → kindOf E y.o.op = .al → ∀ g blk, evA E y.env y.o.op = some (g, blk) → q < f → L y.H.n = none :=
    fun q y _ hy hny hyw hk g blk hg hq => (hi.unm q y hq hy hny hyw g blk hk hg).1
  unfold wpOp
  rw [ent.op]
  simp only [hwt]
  cases hw : x.wt with
  | false =>
    rw [if_neg (by simp)]
    have hne : x.eff E = false := by simp [Ent.eff, hw]
    have hpf : p < f := hfront.resolve_right (fun h => by rw [hne] at h; cases h.2)
    refine hK _ _ (quiet hpf (fun _ _ h => h) hi.sim hi.step ?_ hqz hne)
    rw [(ent.no hw).1]
    exact .tup [] #[] rfl (by simp)
  | true =>
    rw [if_pos rfl]
    have hev := ent.yes hw
    have hev0 := hev
    unfold evOp at hev
    split at hev
    · rename_i hk
      have hne : x.eff E = false := by simp [Ent.eff, hk]
      have hpf : p < f := hfront.resolve_right (fun h => by rw [hne] at h; cases h.2)
      split at hev
      · rename_i v hv
        simp at hev
        obtain ⟨hev, _⟩ := hev
        rw [evPL_congr (H' := hpAt T H' f) (fun b hb => (hs.still hi hx hns hr hpf hw hk hb f (by omega) (Nat.le_refl _)).symm)] at hv
        obtain ⟨val, h1, h2⟩ := pl_sound hT hi.sim hER hk hv
        refine .inl ?_
        unfold Oper.wp
        rw [h1]
        refine hK _ _ (quiet hpf (fun _ _ h => h) hi.sim hi.step ?_ hqz hne)
        rw [← hev]; exact h2
      · simp at hev
    · rename_i hk
      have hne : x.eff E = false := by simp [Ent.eff, hk]
      have hpf : p < f := hfront.resolve_right (fun h => by rw [hne] at h; cases h.2)
      split at hev
      · rename_i g blk hg
        simp at hev
        obtain ⟨hev, hpush⟩ := hev
        obtain ⟨val, w', sz, h1, h2, h3, h4, h5, h6, h7, h8, h9⟩ := a_sound hT (w := w) hER hk hg
        obtain ⟨u1, u2, u3⟩ := hi.unm p x hpf hx hns hw g blk hk hg
        have hn0 : H0.n ≤ x.H.n := by
          have := (hi.frTo (p := 0) p (by omega) (by omega)).n
          rw [hs.chain.hp0, e1] at this
          exact this
        obtain ⟨L', s1, s2, s3, s4, s5⟩ := map_new hi.sim hi.step u1 u2 u3 hn0 (w' := w') (by omega) h3 h4 h5 h6 h7
        refine .inl ?_
        unfold Oper.wp
        rw [h1]
        refine hK _ _ (quiet hpf s4 s1 s2 ?_ (fun q y hq hy hny hyw hyk g' blk' hg' hqf => ?_) hne)
        · rw [← hev]; exact h9 _ _ _ s3
        · rw [s5 y.H.n ?_]
          · exact hqz q y hq hy hny hyw hyk g' blk' hg' hqf
          · -- two that make have two numbers
            have hev' := (hs.chain.ent q y hy).yes hyw
            unfold evOp at hev'
            rw [hyk] at hev'
            simp only [hg', Option.some.injEq, Prod.mk.injEq] at hev'
            rcases Nat.lt_or_gt_of_ne hq with hl | hl
            · have := (hi.frTo (p := q + 1) p (by omega) (by omega)).n
              rw [(hs.mono hy).2.2, e1, ← hev'.2] at this
              simp at this; omega
            · have := (hi.frTo (p := p + 1) q (by omega) (by omega)).n
              rw [e3, (hs.mono hy).1, ← hpush] at this
              simp at this; omega
      · simp at hev
    · rename_i hk
      have hye : x.eff E = true := by simp [Ent.eff, hw, hk]
      have hpf : p = f := by
        rcases hfront with h | h
        · exact absurd (hi.effs p x h hx hye) hns
        · exact h.1
      subst hpf
      have hsim : Sim L R x.H w := by rw [← e1]; exact hi.sim
      refine .inl (Oper.wp_of_runs (op_sound hT hC hsim hER hev0) fun val w' hJ => hK _ _ ?_)
      obtain ⟨L', R', s1, s2, s3⟩ := hJ
      obtain ⟨k1, k2, k3, k4⟩ := hs.putDone hi hx hns hr hd s1.ext s1.rext s3
      have hlp : p < T.length := by
        rcases Nat.lt_or_ge p T.length with h | h
        · exact h
        · rw [List.getElem?_eq_none h] at hx; cases hx
      have hstep := hi.step
      rw [e1] at hstep
      refine (fun ⟨f', k, l⟩ => ⟨f', L', R', k, l⟩) (hs.advance (L := L') (R := R') (S := fun i => S i ∨ i = x.i) _ (p + 1) rfl ⟨hclosed, fun q y hq hy hye' => ?_, fun q y hq hy h => ?_, by omega, by rw [e3]; exact s2, by rw [e3]; exact hstep.trans hd0 s1, fun q hq => ?_, fun q y hq hy hny hyw g blk hyk hg => ?_, k4, k3, k1, k2⟩)
      · by_cases e : q = p
        · subst e; rw [hx] at hy; cases hy; exact .inr rfl
        · exact .inl (hi.effs q y (by omega) hy hye')
      · rcases h with h | h
        · exact hi.ahead q y (by omega) hy h
        · have := hs.inj hy hx h; omega
      · by_cases e : q = p
        · subst e; rw [e1, e3]; exact s1.fr
        · exact hi.frs q (by omega)
      · by_cases e : q = p
        · subst e; rw [hx] at hy; cases hy
          exact absurd (.inr rfl) hny
        · obtain ⟨u1, u2, u3⟩ := hi.unm q y (by omega) hy (fun h => hny (.inl h)) hyw g blk hyk hg
          rw [e1] at u2 u3
          rw [e3]
          refine ⟨?_, by rw [s1.unm _ u3 u1]; exact u2, Nat.lt_of_lt_of_le u3 s1.fr.n⟩
          cases hl : L' y.H.n with
          | none => rfl
          | some z =>
            rcases s1.new _ _ hl with h | h
            · rw [u1] at h; cases h
            · omega

end

theorem Sim.drawn {L : Loc} {R : Rom} {H : Hp} {w : World} (h : Sim L R H w) (n : Nat) : Sim L R H { w with drawn := n } := by
  refine ⟨h.dom, fun b x hb => ?_, h.inj, h.rom, h.apart⟩
  exact (h.blk b x hb).other (w' := { w with drawn := n }) rfl

theorem Step.drawn (L : Loc) (R : Rom) (H : Hp) (w : World) (n : Nat) : Step L R H w L R H { w with drawn := n } :=
  ⟨.refl H, fun _ _ h => h, fun _ _ _ h => h, fun _ _ h => .inl h, fun _ _ _ => rfl, fun _ _ _ => rfl, fun _ _ h => .inl h, fun _ _ _ h => .inl h, Nat.le_refl _, rfl, rfl, rfl⟩

theorem any_sound (hT : TyOk P E.ty) (hC : CallOk P call) {T : List Ent} {env0 env' : Tr AV} {H0 H' : Hp} {anc : List Nat} (hs : Setup E call ops T env0 H0 env' H' anc) {N : Nat} {L0 : Loc} {R0 : Rom} {w0 : World}
    (hd0 : ∀ b x, L0 b = some x → b < H0.n) (hdst : ∀ o ∈ ops.toList, dstOk N o = true) {Q : Exit → Act → World → Prop} (hQ : ∀ a' w', Went L0 R0 N H0 w0 env' H' a' w' → Q .normal a' w') :
    ∀ (fuel : Nat) (listed : Array Bool) (a : Act) (w : World), listed.size = ops.size → listed.toList.count false = fuel → At E ops T env0 H0 H' anc N L0 R0 w0 (fun i => listed.getD i false = true) a w →
      wpAny P .any ops Q fuel listed a w := by
  -- what is ready
  have hready : ∀ (listed : Array Bool), listed.size = ops.size → ∀ i, i ∈ Region.ready .any ops listed ↔ ∃ o, ops[i]? = some o ∧ listed.getD i false = false ∧ ∀ e ∈ o.after.toList, binds e = true → listed.getD e.on false = true := by
    intro listed hsz i
    unfold Region.ready
    simp only [List.mem_filter, List.mem_range, Bool.and_eq_true, Bool.not_eq_true']
    constructor
    · rintro ⟨h1, h2, h3⟩
      have ho : ops[i]? = some ops[i] := by simp [h1]
      refine ⟨ops[i], ho, ?_, fun e he hb => ?_⟩
      · rw [Array.getD_eq_getD_getElem?] at h2 ⊢
        simpa [hsz ▸ h1, show i < listed.size by omega] using h2
      · rw [ho] at h3
        simp only [Option.map_some, Option.getD_some, ← Array.all_toList] at h3
        have := List.all_eq_true.1 h3 e he
        rw [binds_eq, hb] at this
        simpa using this
    · rintro ⟨o, ho, h2, h3⟩
      have h1 : i < ops.size := by
        rcases Nat.lt_or_ge i ops.size with hl | hl
        · exact hl
        · rw [Array.getElem?_eq_none hl] at ho; cases ho
      refine ⟨h1, ?_, ?_⟩
      · rw [Array.getD_eq_getD_getElem?] at h2 ⊢
        simpa [show i < listed.size by omega] using h2
      · rw [ho]
        simp only [Option.map_some, Option.getD_some, ← Array.all_toList]
        refine List.all_eq_true.2 fun e he => ?_
        rw [binds_eq]
        cases hb : binds e with
        | false => rfl
        | true => simp [h3 e he hb]
  have hends : ∀ (listed : Array Bool) (a : Act) (w : World), listed.size = ops.size → Region.ready .any ops listed = [] → At E ops T env0 H0 H' anc N L0 R0 w0 (fun i => listed.getD i false = true) a w → Q .normal a w := by
    intro listed a w hsz hnil hat
    have hall : ∀ (p : Nat) (x : Ent), T[p]? = some x → listed.getD x.i false = true := by
      intro p
      induction p using Nat.strongRecOn with
      | _ p ih =>
        intro x hx
        cases hl : listed.getD x.i false with
        | true => rfl
        | false =>
          have : x.i ∈ Region.ready .any ops listed := by
            refine (hready listed hsz x.i).2 ⟨x.o, (hs.chain.ent p x hx).op, hl, fun e he hb => ?_⟩
            have h1 : ops.toList[x.i]? = some x.o := by rw [Array.getElem?_toList]; exact (hs.chain.ent p x hx).op
            have h2 := (ancs_spec h1 (j := e.on)).2 e he hb
            rw [← hs.anc] at h2
            obtain ⟨q, y, hq, hy, hyi⟩ := (hs.places p x hx).sub _ h2
            rw [← hyi]; exact ih q hq y hy
          rw [hnil] at this; cases this
    obtain ⟨f, L, R, hi, hh⟩ := hat
    have hf : f = T.length := by
      rcases Nat.lt_or_ge f T.length with hl | hl
      · have hx : T[f]? = some T[f] := by simp [hl]
        exact absurd (hall f _ hx) (hi.ahead f _ (Nat.le_refl _) hx)
      · have := hi.le; omega
    subst hf
    have hhp : hpAt T H' T.length = H' := by simp [hpAt]
    have henv : envAt T env' T.length = env' := by simp [envAt]
    refine hQ _ _ ⟨L, R, by have := hi.step; rwa [hhp] at this, by have := hi.sim; rwa [hhp] at this, hi.defers, hi.size, fun t v e => ?_⟩
    cases hw : writerOf t ops.toList 0 with
    | none =>
      refine hi.tOld t v ?_ (fun j hj => by rw [hw] at hj; cases hj)
      rw [← chain_old hs.chain (t := t) T.length (Nat.le_refl _) (fun q y hq hy hd => by have := hs.writer hy hd; rw [hw] at this; cases this), henv]
      exact e
    | some j =>
      obtain ⟨q, y, hq, hyj, hyd⟩ := hs.place hw
      have hql : q < T.length := by
        rcases Nat.lt_or_ge q T.length with h | h
        · exact h
        · rw [List.getElem?_eq_none h] at hq; cases hq
      have := chain_new hs.chain hq hyd T.length (Nat.le_refl _) hql (fun r z hrr hz hd => by
        have := hs.writer hz hd
        rw [hw] at this; cases this
        have := hs.inj hz hq hyj.symm
        omega)
      rw [henv, e] at this
      cases this
      exact hi.tDone q y t hq (hall q y hq) hyd
  intro fuel
  induction fuel with
  | zero =>
    intro listed a w hsz hcount hat
    have hnil : Region.ready .any ops listed = [] := by
      refine List.eq_nil_iff_forall_not_mem.2 fun i hi => ?_
      obtain ⟨o, ho, hl, _⟩ := (hready listed hsz i).1 hi
      have h1 : i < listed.size := by
        rw [hsz]
        rcases Nat.lt_or_ge i ops.size with hl | hl
        · exact hl
        · rw [Array.getElem?_eq_none hl] at ho; cases ho
      have : false ∈ listed.toList := by
        rw [Array.getD_eq_getD_getElem?] at hl
        simp [h1] at hl
        exact Array.mem_toList_iff.2 (hl ▸ Array.getElem_mem h1)
      exact List.count_eq_zero.1 hcount this
    exact ⟨hnil, hends listed a w hsz hnil hat⟩
  | succ fuel ih =>
    intro listed a w hsz hcount hat
    refine ⟨fun hnil => hends listed a w hsz hnil hat, fun i hi => ?_⟩
    obtain ⟨o, ho, hl, haft⟩ := (hready listed hsz i).1 hi
    have h1 : i < ops.size := by
      rcases Nat.lt_or_ge i ops.size with hl | hl
      · exact hl
      · rw [Array.getElem?_eq_none hl] at ho; cases ho
    obtain ⟨p, x, hx, hxi⟩ := hs.all i h1
    subst hxi
    have hxo : x.o = o := by
      have := (hs.chain.ent p x hx).op
      rw [ho] at this; exact (Option.some.inj this).symm
    subst hxo
    have hcl : ∀ i, listed.getD i false = true → ∀ j, bit (anc.getD i 0) j = true → listed.getD j false = true := by
      obtain ⟨f, L, R, hi, hh⟩ := hat
      exact hi.closed
    refine hs.exec hT hC hd0 hat hx (by rw [hl]; simp) (fun j hj => ?_) (hdst x.o (by rw [← Array.getElem?_toList] at ho; exact List.mem_of_getElem? ho)) fun a' w' hat' => ?_
    · have h2 : ops.toList[x.i]? = some x.o := by rw [Array.getElem?_toList]; exact ho
      have := ancs_spec h2 (j := j)
      rw [← hs.anc] at this
      obtain ⟨e, he, hb, hj⟩ := this.1 hj
      rcases hj with rfl | hj
      · exact haft e he hb
      · exact hcl _ (haft e he hb) j hj
    · refine ih _ _ _ (by simp [hsz]) ?_ ?_
      · have h2 : x.i < listed.toList.length := by simpa [hsz] using h1
        have h3 : listed.toList[x.i] = false := by
          rw [Array.getD_eq_getD_getElem?] at hl
          simpa [hsz, h1] using hl
        rw [Array.toList_setIfInBounds, List.count_set h2, h3, hcount]
        simp
      · have : (fun i => (listed.setIfInBounds x.i true).getD i false = true) = fun i => (listed.getD i false = true ∨ i = x.i) := by
          funext i
          refine propext ?_
          simp only [Array.getD_eq_getD_getElem?, Array.getElem?_setIfInBounds]
          by_cases e : x.i = i
          · subst e
            rw [if_pos rfl, if_pos (by omega)]; simp
          · rw [if_neg e]
            have : ¬ i = x.i := fun h => e h.symm
            simp [this]
        rw [this]; exact hat'

theorem draw_sound (hmix : P.follows .mixedOrders = true) (hT : TyOk P E.ty) (hC : CallOk P call) : DrawOk P E call := by
  intro N id ops Q L R H H' w env env' a hdst hS hE h hQ
  obtain ⟨T, anc, hs⟩ := setup h
  refine wp_region_any hmix (any_sound (w0 := w) hT hC hs hS.dom hdst hQ _ _ _ _ (by simp) (by simp) ?_)
  have hnone : ∀ i, (Array.replicate ops.size false).getD i false = false := by
    intro i
    rw [Array.getD_eq_getD_getElem?, Array.getElem?_replicate]
    split <;> rfl
  refine (fun ⟨f', k, l⟩ => ⟨f', L, R, k, l⟩) (hs.advance _ 0 rfl ⟨fun i h => ?_, fun q x hq => ?_, fun q x _ _ h => ?_, Nat.zero_le _, ?_, ?_, fun q hq => ?_, fun q x hq => ?_, hE.defers, hE.size, fun q x d _ h => ?_, fun t v e _ => hE.get t v e⟩)
  · rw [hnone] at h; cases h
  · omega
  · rw [hnone] at h; cases h
  · rw [hs.chain.hp0]; exact hS.drawn _
  · rw [hs.chain.hp0]; exact .drawn _ _ _ _ _
  · omega
  · omega
  · rw [hnone] at h; cases h

end Go.Ab
