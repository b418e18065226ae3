/- Part of the proof over the seat YtlphbbfoihcgkaaGreat: AbDraw1. No conditions of its own. -/
import Derived.Test.YtlphbbfoihcgkaaGreatAbSeq
namespace Go.Ab
variable {P : Program} {L : Loc} {R : Rom} {H H' : Hp} {w : World} {E : Env} {call : CallF} {env env' : Tr AV} {o : Oper}

/-! ### What an operation that reads depends on -/

theorem convertPL_congr {ty : Tr TI} {si di : TI} {x : AV} (h : ∀ b off len m cap ex, x = .ref b off len m cap ex → H.get b = H'.get b) : convertPL H ty si di x = convertPL H' ty si di x := by
  have hc : ∀ n, cellsOf H 1 n x = cellsOf H' 1 n x := by
    intro n
    cases x <;> first | rfl | skip
    rename_i b off len m cap ex
    simp only [cellsOf, h _ _ _ _ _ _ rfl]
  cases x
  case map b =>
    unfold convertPL
    cases di.k <;> first | rfl | skip
    cases si.k <;> first | rfl | skip
    simp only [cellsOf]
    cases ty.get _ <;> first | rfl | skip
    cases lenAV H (.map b) <;> cases lenAV H' (.map b) <;> simp <;> (cases (TI.k _) <;> rfl)
  case ref b off len m cap ex =>
    unfold convertPL
    cases di.k <;> first | rfl | skip
    cases si.k <;> first | rfl | skip
    simp only [hc, lenAV]
  case nil v =>
    have hl : lenAV H (.nil v) = lenAV H' (.nil v) := by
      cases v <;> first | rfl | (rename_i q; cases q <;> rfl)
    unfold convertPL
    cases di.k <;> first | rfl | skip
    cases si.k <;> first | rfl | skip
    simp only [hc, hl]
  all_goals (unfold convertPL; cases di.k <;> first | rfl | (cases si.k <;> rfl))

theorem evPL_congr {o : Op} (h : ∀ b, readsOf env o = some b → H.get b = H'.get b) : evPL E env H o = evPL E env H' o := by
  cases o <;> first | rfl | skip
  case makeFunc f a b => cases f <;> first | rfl | simp only [evPL]
  case slice t x lo hi m => cases m <;> first | rfl | simp only [evPL]
  case load t a =>
    simp only [evPL]
    cases ha : opnd env a with
    | none => cases E.ty.get t <;> rfl
    | some p =>
      cases E.ty.get t with
      | none => rfl
      | some ti =>
        simp only
        cases p <;> first | rfl | skip
        simp only [load]
        rw [h _ (by simp [readsOf, ha])]
  case convert s d x =>
    simp only [evPL]
    cases ha : opnd env x with
    | none => cases E.ty.get s <;> cases E.ty.get d <;> rfl
    | some v =>
      cases E.ty.get s <;> first | rfl | skip
      cases E.ty.get d <;> first | rfl | skip
      simp only
      exact convertPL_congr fun b off len m cap ex e => h b (by simp [readsOf, ha, e])
  case lookup t x i ok =>
    simp only [evPL]
    cases ha : opnd env x with
    | none => cases E.ty.get t <;> rfl
    | some v =>
      cases v
      case map b =>
        have e := h b (by simp [readsOf, ha])
        cases E.ty.get t <;> cases opnd env i <;> simp only [e]
      case nil v =>
        cases E.ty.get t <;> cases opnd env i <;> first | rfl | skip
        cases v <;> first | rfl | (simp only; done) | skip
        rename_i q
        cases q <;> first | rfl | simp only
      all_goals (cases E.ty.get t <;> cases opnd env i <;> first | rfl | simp only)
  case call c =>
    simp only [evPL]
    cases ha : opnds env c.args.toList with
    | none => cases c.callee <;> rfl
    | some l =>
      have hb : ∀ b ti, builtinPL H b ti l = builtinPL H' b ti l := by
        intro b ti
        cases b <;> first | rfl | skip
        case max => match l with
          | [] => rfl
          | [x] => cases x <;> rfl
          | [x, y] => cases x <;> cases y <;> rfl
          | x :: y :: _ :: _ => cases x <;> cases y <;> rfl
        case min => match l with
          | [] => rfl
          | [x] => cases x <;> rfl
          | [x, y] => cases x <;> cases y <;> rfl
          | x :: y :: _ :: _ => cases x <;> cases y <;> rfl
        case len =>
          match l with
          | [] => rfl
          | x :: _ :: _ => cases x <;> simp only [builtinPL]
          | [x] =>
            cases ti with
            | none => rfl
            | some ti =>
              cases x
              case map m =>
                have e := h m (by simp [readsOf, ha])
                cases hk : ti.k <;> simp [builtinPL, hk, e]
              case nil v => cases hk : ti.k <;> cases v <;> first | (simp only [builtinPL, hk]; done) | (rename_i q; cases q <;> simp only [builtinPL, hk])
              all_goals (cases hk : ti.k <;> simp only [builtinPL, hk])
        case cap =>
          match l with
          | [] => rfl
          | x :: _ :: _ => cases x <;> simp only [builtinPL]
          | [x] => cases x <;> simp only [builtinPL]
      cases c.callee <;> first | rfl | simp only [hb]

/-! ### Bits -/

theorem bit_zero (i : Nat) : bit 0 i = false := by simp [bit]

theorem bit_or (a b i : Nat) : bit (Nat.lor a b) i = (bit a i || bit b i) := by
  show Nat.testBit (a ||| b) i = _
  rw [Nat.testBit_or]; rfl

theorem bit_one (k i : Nat) : bit (Nat.shiftLeft 1 k) i = decide (k = i) := by
  show Nat.testBit (1 <<< k) i = _
  rw [Nat.one_shiftLeft, Nat.testBit_two_pow]

theorem bit_all (n i : Nat) : bit (Nat.shiftLeft 1 n - 1) i = decide (i < n) := by
  show Nat.testBit (1 <<< n - 1) i = _
  rw [Nat.one_shiftLeft, Nat.testBit_two_pow_sub_one]

theorem subset_iff {a b : Nat} : subset a b = true → ∀ i, bit a i = true → bit b i = true := by
  intro h i hi
  have h1 : Nat.land a b = a := Nat.eq_of_beq_eq_true h
  have h2 : Nat.testBit (a &&& b) i = Nat.testBit a i := congrArg (fun x => Nat.testBit x i) h1
  rw [Nat.testBit_and] at h2
  have hi' : Nat.testBit a i = true := hi
  rw [hi'] at h2
  simpa [bit] using h2

theorem bit_beq {a b : Nat} (h : Nat.beq a b = true) (i : Nat) : bit a i = bit b i := by rw [Nat.eq_of_beq_eq_true h]

/-! ### What is before -/

theorem ancOf_spec (acc : List Nat) : ∀ (es : List Edge) (j : Nat), bit (ancOf acc es) j = true ↔ ∃ e ∈ es, binds e = true ∧ (j = e.on ∨ bit (acc.getD e.on 0) j = true) := by
  intro es
  induction es with
  | nil => intro j; simp [ancOf, bit_zero]
  | cons e es ih =>
    intro j
    simp only [ancOf]
    cases hb : binds e with
    | true =>
      simp only [bit_or, bit_one, Bool.or_eq_true, decide_eq_true_eq, ih, List.mem_cons, exists_eq_or_imp, hb, true_and]
      constructor
      · rintro ((h | h) | h)
        · exact .inl (.inl h.symm)
        · exact .inl (.inr h)
        · exact .inr h
      · rintro ((h | h) | h)
        · exact .inl (.inl h.symm)
        · exact .inl (.inr h)
        · exact .inr h
    | false => simp [ih, hb]

theorem ancs_length : ∀ (os : List Oper) (acc : List Nat), (ancs os acc).length = acc.length + os.length := by
  intro os
  induction os with
  | nil => intro acc; simp [ancs]
  | cons o os ih => intro acc; simp [ancs, ih]; omega

theorem ancs_old : ∀ (os : List Oper) (acc : List Nat) (i : Nat), i < acc.length → (ancs os acc)[i]? = acc[i]? := by
  intro os
  induction os with
  | nil => intro acc i h; rfl
  | cons o os ih =>
    intro acc i h
    simp only [ancs]
    rw [ih _ i (by simp; omega), List.getElem?_append_left h]

theorem ancs_new : ∀ (os : List Oper) (acc : List Nat) (k : Nat) (o : Oper), os[k]? = some o →
    (ancs os acc)[acc.length + k]? = some (ancOf ((ancs os acc).take (acc.length + k)) o.after.toList) := by
  intro os
  induction os with
  | nil => intro acc k o h; simp at h
  | cons o os ih =>
    intro acc k x h
    simp only [ancs]
    cases k with
    | zero =>
      simp at h; subst h
      rw [Nat.add_zero, ancs_old _ _ _ (by simp)]
      have : (ancs os (acc ++ [ancOf acc o.after.toList])).take acc.length = acc := by
        refine List.ext_getElem? fun i => ?_
        rw [List.getElem?_take]
        split
        · rename_i hi
          rw [ancs_old _ _ _ (by simp; omega), List.getElem?_append_left hi]
        · rename_i hi
          simp at hi
          simp [hi]
      rw [this]; simp
    | succ k =>
      simp at h
      have := ih (acc ++ [ancOf acc o.after.toList]) k x h
      simp only [List.length_append, List.length_cons, List.length_nil] at this
      rw [show acc.length + (k + 1) = acc.length + (0 + 1) + k by omega]
      exact this

/-- Closed: what is before one that is in is in. -/
theorem ancs_spec {os : List Oper} {i : Nat} {o : Oper} (h : os[i]? = some o) {j : Nat} :
    (bit ((ancs os []).getD i 0) j = true → ∃ e ∈ o.after.toList, binds e = true ∧ (j = e.on ∨ bit ((ancs os []).getD e.on 0) j = true)) ∧
    (∀ e ∈ o.after.toList, binds e = true → bit ((ancs os []).getD i 0) e.on = true) := by
  have h1 := ancs_new os [] i o h
  simp only [List.length_nil, Nat.zero_add] at h1
  rw [List.getD_eq_getElem?_getD, h1, Option.getD_some]
  refine ⟨fun hb => ?_, fun e he hb => (ancOf_spec _ _ _).2 ⟨e, he, hb, .inl rfl⟩⟩
  obtain ⟨e, he, hb, hj⟩ := (ancOf_spec _ _ _).1 hb
  refine ⟨e, he, hb, hj.imp_right fun hj => ?_⟩
  rw [List.getD_eq_getElem?_getD, List.getElem?_take] at hj
  split at hj
  · rw [List.getD_eq_getElem?_getD]; exact hj
  · simp [bit_zero] at hj

theorem binds_eq (e : Edge) : Region.binds .any e = binds e := by
  unfold Region.binds binds
  cases e.ground <;> rfl

end Go.Ab
