/- Part of the proof over the seat YtlphbbfoihcgkaaGreat: AbEq. No conditions of its own. -/
import Derived.Test.YtlphbbfoihcgkaaGreatAbPure
namespace Go.Ab
variable {P : Program} {L : Loc} {R : Rom} {H H' : Hp} {w : World}

theorem TyRel.und {t : Nat} {ti : TI} (ht : TyRel P t ti) : ∃ d, P.underlying t = some d ∧ descOk ti.k d = true := ht.desc

/-- '==' inside. -/
theorem eq1_sound {t : Nat} {k : TK} {d : TypeDesc} (hd : P.underlying t = some d) (hk : descOk k d = true) {a b : AV} {x y : Value} {r : Bool} (h : eq1 k a b = some r)
    (ha : VR L R a x) (hb : VR L R b y) (n : Nat) (w : World) : (Op.equalIn (n + 1) t x y).run P w = .ok r w := by
  unfold eq1 at h
  split at h
  · -- int
    rename_i k0 k1 a1 k2 b1
    split at h
    · rename_i hkk
      cases kEq_eq hkk
      rw [ha.int_inv, hb.int_inv]
      cases d <;> simp [descOk] at hk
      simp at h; subst h
      simp [Op.equalIn, run_und hd]
      rfl
    · simp at h
  · rw [ha.bool_inv, hb.bool_inv]
    cases d <;> simp [descOk] at hk
    simp at h; subst h
    simp [Op.equalIn, run_und hd]
  · rw [ha.str_inv, hb.str_inv]
    cases d <;> simp [descOk] at hk
    simp [bEq_eq] at h; subst h
    simp [Op.equalIn, run_und hd, beq_toListBytes]
  all_goals (simp at h; try subst h)
  all_goals (cases d <;> simp [descOk] at hk)
  · rw [ha.nil_inv.1, hb.nil_inv.1]; simp [Op.equalIn, run_und hd]
  · rw [hb.nil_inv.1]; cases ha; simp [Op.equalIn, run_und hd]
  · rw [ha.nil_inv.1]; cases hb; simp [Op.equalIn, run_und hd]
  · rw [hb.nil_inv.1]; cases ha; simp [Op.equalIn, run_und hd]
  · rw [ha.nil_inv.1]; cases hb; simp [Op.equalIn, run_und hd]
  · rw [ha.nil_inv.1, hb.nil_inv.1]; simp [Op.equalIn, run_und hd]
  · rw [hb.nil_inv.1]; cases ha; simp [Op.equalIn, run_und hd]
  · rw [ha.nil_inv.1]; cases hb; simp [Op.equalIn, run_und hd]
  · rw [ha.nil_inv.1, hb.nil_inv.1]; simp [Op.equalIn, run_und hd]
  · rw [hb.nil_inv.1]; cases ha; simp [Op.equalIn, run_und hd]
  · rw [ha.nil_inv.1]; cases hb; simp [Op.equalIn, run_und hd]
  · rw [ha.nsl_inv, hb.nsl_inv]; simp [Op.equalIn, run_und hd]
  · rw [hb.nsl_inv]; cases ha; simp [Op.equalIn, run_und hd]
  · rw [hb.nsl_inv]; cases ha; simp [Op.equalIn, run_und hd]
  · rw [hb.nsl_inv]; cases ha; simp [Op.equalIn, run_und hd]

theorem eq1_int_str {k : TK} {a b : AV} {r : Bool} (h : eq1 k a b = some r) : a.one = true ∧ b.one = true := by
  unfold eq1 at h
  split at h <;> first | exact ⟨rfl, rfl⟩ | (simp at h; done)

theorem part_one {t : Nat} {ti : TI} (ht : TyRel P t ti) (hq : ti.isAgg = false) {cs : Array Value} {off : Nat} {v : Value} (h : cs[off]? = some v) (w : World) :
    (Go.part t cs off).run P w = .ok v w := by
  simp [Go.part, ht.run_isAgg, hq, h]

theorem eqFs_sound {ty : Tr TI} (hT : TyOk P ty) : ∀ (fs : List (Nat × Nat)) (gs : List Field) (i : Nat) (as bs : List AV) (xs ys : Array Value) (r : Bool),
    fs = gs.map (fun f => (f.offset, f.type)) → (∀ f ∈ gs, f.name ≠ "_") →
    (∀ (j : Nat) (a : AV), as[j]? = some a → ∃ v, xs[i + j]? = some v ∧ VR L R a v) → (∀ (j : Nat) (a : AV), bs[j]? = some a → ∃ v, ys[i + j]? = some v ∧ VR L R a v) →
    eqFs ty fs i as bs = some r → ∀ (n : Nat) (w : World), (Op.eqFields (n + 1) xs ys gs).run P w = .ok r w := by
  intro fs
  induction fs with
  | nil =>
    intro gs i as bs xs ys r hg _ _ _ h n w
    have : gs = [] := by simpa using hg.symm
    subst this
    simp [eqFs] at h; subst h
    simp [Op.eqFields]
  | cons f0 fs ih =>
    intro gs i as bs xs ys r hg hn ha hb h n w
    obtain ⟨off, ft⟩ := f0
    cases gs with
    | nil => simp at hg
    | cons g gs =>
      simp at hg
      obtain ⟨⟨rfl, rfl⟩, hg⟩ := hg
      cases as with
      | nil => simp [eqFs] at h
      | cons a as =>
        cases bs with
        | nil => simp [eqFs] at h
        | cons b bs =>
          simp only [eqFs] at h
          split at h
          · rename_i ti ho hti
            have ho : g.offset = i := Nat.eq_of_beq_eq_true ho
            have hti := hT _ _ hti
            obtain ⟨d, hd, hk⟩ := hti.und
            obtain ⟨x, hx, hxr⟩ := ha 0 a rfl
            obtain ⟨y, hy, hyr⟩ := hb 0 b rfl
            rw [Nat.add_zero] at hx hy
            have hg0 : g.name ≠ "_" := hn g (by simp)
            split at h
            · rename_i hag he
              have e := eq1_sound hd hk he hxr hyr n w
              simp only [Op.eqFields, if_pos hg0, Sem.run_bind, part_one hti hag (ho ▸ hx), part_one hti hag (ho ▸ hy), Result.andThen_ok, e, Bool.not_true, Bool.false_eq_true, if_false]
              exact ih gs (i + 1) as bs xs ys r hg (fun f hf => hn f (by simp [hf]))
                (fun j a hj => by obtain ⟨v, h1, h2⟩ := ha (j + 1) a (by simpa using hj); exact ⟨v, by rw [← h1]; congr 1; omega, h2⟩)
                (fun j a hj => by obtain ⟨v, h1, h2⟩ := hb (j + 1) a (by simpa using hj); exact ⟨v, by rw [← h1]; congr 1; omega, h2⟩) h n w
            · rename_i hag he
              have e := eq1_sound hd hk he hxr hyr n w
              simp at h; subst h
              simp only [Op.eqFields, if_pos hg0, Sem.run_bind, part_one hti hag (ho ▸ hx), part_one hti hag (ho ▸ hy), Result.andThen_ok, e, Bool.not_false, if_true, Sem.run_pure]
            · simp at h
          · simp at h

theorem VRs.get {as : List AV} {vs : List Value} (h : VRs L R as vs) {j : Nat} {a : AV} (ha : as[j]? = some a) : ∃ v, vs[j]? = some v ∧ VR L R a v := by
  have hj : j < vs.length := by rw [← h.1]; exact (List.getElem?_eq_some_iff.1 ha).1
  exact ⟨vs[j], by simp [hj], h.2 j a _ ha (by simp [hj])⟩

theorem VRs.rep {as : List AV} {vs : List Value} (h : VRs L R as vs) (ho : ∀ a ∈ as, a.one = true) {j : Nat} {v : Value} (hv : vs[j]? = some v) : ∃ a, a.one = true ∧ VR L R a v := by
  have hj : j < vs.length := (List.getElem?_eq_some_iff.1 hv).1
  have hj' : j < as.length := by rw [h.1]; exact hj
  exact ⟨as[j], ho _ (List.getElem_mem hj'), h.2 j _ _ (by simp [hj']) hv⟩

theorem VR.agg_inv {cs : List AV} {v : Value} (h : VR L R (.agg cs) v) : ∃ vs, v = .agg vs ∧ VRs L R cs vs.toList ∧ ∀ a ∈ cs, a.one = true := by
  cases h with
  | agg _ vs hl ho hv => exact ⟨vs, rfl, ⟨by simpa using hl, fun i a v h1 h2 => hv i a v h1 (by simpa using h2)⟩, ho⟩
theorem VR.tup_inv {cs : List AV} {v : Value} (h : VR L R (.tup cs) v) : ∃ vs, v = .tuple vs ∧ VRs L R cs vs.toList := by
  cases h with
  | tup _ vs hl hv => exact ⟨vs, rfl, ⟨by simpa using hl, fun i a v h1 h2 => hv i a v h1 (by simpa using h2)⟩⟩
theorem VR.mk_agg {cs : List AV} {vs : Array Value} (h : VRs L R cs vs.toList) (ho : ∀ a ∈ cs, a.one = true) : VR L R (.agg cs) (.agg vs) :=
  .agg _ _ (by simpa using h.1) ho (fun i a v h1 h2 => h.2 i a v h1 (by simpa using h2))
theorem VR.mk_tup {cs : List AV} {vs : Array Value} (h : VRs L R cs vs.toList) : VR L R (.tup cs) (.tuple vs) :=
  .tup _ _ (by simpa using h.1) (fun i a v h1 h2 => h.2 i a v h1 (by simpa using h2))

theorem eqGuard_plain (op : BinOp) (t : TypeId) (X Y : Operand) {x y : Value} (h1 : ¬ (x = .nilIface ∧ y = .nilIface)) (h2 : ∀ cs, x ≠ .agg cs) (w : World) : (eqGuard op t X Y x y).run P w = .ok () w := by
  unfold eqGuard
  cases op <;> simp only [Bool.not_true, Bool.not_false, if_true, Bool.false_eq_true, if_false] <;> (first | rfl | skip)
  all_goals
    split
    · exact absurd ⟨rfl, rfl⟩ h1
    · exact absurd rfl (h2 _)
    · rfl

/-- '==' of two values of a type, and its guard. -/
theorem eqAV_sound {ty : Tr TI} (hT : TyOk P ty) {t : Nat} {ti : TI} (ht : TyRel P t ti) {a b : AV} {x y : Value} {r : Bool} (h : eqAV ty ti.k a b = some r)
    (ha : VR L R a x) (hb : VR L R b y) (w : World) : (Op.equal t x y).run P w = .ok r w ∧ ∀ op X Y, (eqGuard op t X Y x y).run P w = .ok () w := by
  obtain ⟨d, hd, hk⟩ := ht.und
  unfold eqAV at h
  split at h
  · rename_i fs as bs hq
    obtain ⟨xs, rfl, hx, hox⟩ := ha.agg_inv
    obtain ⟨ys, rfl, hy, hoy⟩ := hb.agg_inv
    obtain ⟨h1, h2⟩ := ht.eqg ⟨fs, hq⟩
    rw [hq] at hk
    cases d <;> simp only [descOk, Bool.false_eq_true, Bool.and_eq_true, beq_iff_eq, List.all_eq_true, bne_iff_ne] at hk
    rename_i gs
    have hfo : P.fieldsOf t = gs := by simp [Program.fieldsOf, hd]
    refine ⟨?_, fun op X Y => run_eqGuard_agg w op t X Y xs ys h2⟩
    rw [Op.equal, Op.maxDepth, run_equalIn_struct w 9999 t xs ys (by rw [hfo]; exact hd) h1, hfo]
    exact eqFs_sound hT fs gs.toList 0 as bs xs ys r hk.1.symm hk.2
      (fun j a hj => by obtain ⟨v, e1, e2⟩ := hx.get hj; exact ⟨v, by simpa using e1, e2⟩)
      (fun j a hj => by obtain ⟨v, e1, e2⟩ := hy.get hj; exact ⟨v, by simpa using e1, e2⟩) h 9998 w
  · refine ⟨by rw [Op.equal, Op.maxDepth]; exact eq1_sound hd hk h ha hb 9999 w, fun op X Y => ?_⟩
    obtain ⟨h1, h2⟩ := eq1_int_str h
    have e1 := ha.oneCell h1
    refine eqGuard_plain op t X Y ?_ (fun cs e => by rw [e] at e1; simp [Value.oneCell'] at e1) w
    rintro ⟨rfl, rfl⟩
    unfold eq1 at h
    split at h <;> (first | (simp at h; done) | (cases ha; done) | (cases hb; done) | skip)
    all_goals (first | (have := ha.nil_inv.1; cases this; done) | (have := hb.nil_inv.1; cases this; done) | (cases ha; done))

end Go.Ab
