/- Part of the proof over the seat YtlphbbfoihcgkaaGreat: AbDraw2. No conditions of its own. -/
import Derived.Test.YtlphbbfoihcgkaaGreatAbDraw1
namespace Go.Ab
variable {E : Env} {call : CallF} {ops : Array Oper}

/-! ### The trace, by places -/

def envAt (T : List Ent) (env' : Tr AV) (p : Nat) : Tr AV := match T[p]? with
  | some x => x.env
  | none => env'

def hpAt (T : List Ent) (H' : Hp) (p : Nat) : Hp := match T[p]? with
  | some x => x.H
  | none => H'

structure EntOk (E : Env) (call : CallF) (ops : Array Oper) (x : Ent) : Prop where
  op : ops[x.i]? = some x.o
  wt : wanted x.o ops x.env = some x.wt
  yes : x.wt = true → evOp E call x.env x.H x.o = some (x.v, x.H')
  no : x.wt = false → x.v = .tup [] ∧ x.H' = x.H

structure Chain (E : Env) (call : CallF) (ops : Array Oper) (T : List Ent) (env0 : Tr AV) (H0 : Hp) (env' : Tr AV) (H' : Hp) : Prop where
  ent : ∀ (p : Nat) (x : Ent), T[p]? = some x → EntOk E call ops x
  env0 : envAt T env' 0 = env0
  hp0 : hpAt T H' 0 = H0
  envS : ∀ (p : Nat) (x : Ent), T[p]? = some x → envAt T env' (p + 1) = putD x.env x.o.dst x.v
  hpS : ∀ (p : Nat) (x : Ent), T[p]? = some x → hpAt T H' (p + 1) = x.H'

theorem Chain.cons {x : Ent} {T : List Ent} {env' : Tr AV} {H' : Hp} (hx : EntOk E call ops x) (h : Chain E call ops T (putD x.env x.o.dst x.v) x.H' env' H') :
    Chain E call ops (x :: T) x.env x.H env' H' := by
  refine ⟨fun p y e => ?_, rfl, rfl, fun p y e => ?_, fun p y e => ?_⟩
  · cases p with
    | zero => simp at e; subst e; exact hx
    | succ p => exact h.ent p y (by simpa using e)
  · cases p with
    | zero => simp at e; subst e; exact h.env0
    | succ p => exact h.envS p y (by simpa using e)
  · cases p with
    | zero => simp at e; subst e; exact h.hp0
    | succ p => exact h.hpS p y (by simpa using e)

theorem trace_chain : ∀ (ord : List Nat) {env : Tr AV} {H : Hp} {T : List Ent} {env' : Tr AV} {H' : Hp}, trace E call ops ord env H = some (T, env', H') → Chain E call ops T env H env' H' := by
  intro ord
  induction ord with
  | nil =>
    intro env H T env' H' h
    simp [trace] at h; obtain ⟨rfl, rfl, rfl⟩ := h
    exact ⟨by simp, rfl, rfl, by simp, by simp⟩
  | cons i ord ih =>
    intro env H T env' H' h
    unfold trace at h
    split at h
    · simp at h
    · rename_i o ho
      split at h
      · rename_i hw
        split at h
        · rename_i v H1 hev
          split at h
          · rename_i t r ht
            simp at h; obtain ⟨rfl, rfl⟩ := h
            exact Chain.cons (x := ⟨i, o, env, H, true, v, H1⟩) ⟨ho, hw, fun _ => hev, by simp⟩ (ih ht)
          · simp at h
        · simp at h
      · rename_i hw
        split at h
        · rename_i t r ht
          simp at h; obtain ⟨rfl, rfl⟩ := h
          exact Chain.cons (x := ⟨i, o, env, H, false, .tup [], H⟩) ⟨ho, hw, by simp, by simp⟩ (ih ht)
        · simp at h
      · simp at h

/-! ### The order, by places -/

def stableE (a clk : Nat) (H' : Hp) (y : Ent) : Prop := y.wt = true → ∀ b, readsOf y.env y.o.op = some b → bit a y.i = true ∨ (b < y.H.n ∧ H'.ts b < clk)

theorem stable_spec {a clk : Nat} {H' : Hp} : ∀ {l : List Ent}, stable a clk H' l = true → ∀ y ∈ l, stableE a clk H' y := by
  intro l
  induction l with
  | nil => intro _ y hy; simp at hy
  | cons x l ih =>
    intro h y hy
    have key : stable a clk H' l = true ∧ stableE a clk H' x := by
      unfold stable at h
      split at h
      · rename_i b hw hb
        split at h
        · rename_i hc
          simp only [Bool.or_eq_true, Bool.and_eq_true, blt_iff] at hc
          refine ⟨h, fun _ b' hb' => ?_⟩
          rw [hb] at hb'; cases hb'
          exact hc
        · simp at h
      · rename_i hn
        refine ⟨h, fun hw b hb => ?_⟩
        exact absurd hb (by intro hb; exact hn b hw hb)
    rcases List.mem_cons.1 hy with rfl | hy
    · exact key.2
    · exact ih key.1 y hy

theorem laterAll_spec {e done : Nat} : ∀ {as : List Nat} {i : Nat}, laterAll e done as i = true → ∀ (k a : Nat), as[k]? = some a → i + k = e ∨ bit done (i + k) = true ∨ bit a e = true := by
  intro as
  induction as with
  | nil => intro i _ k a hk; simp at hk
  | cons x as ih =>
    intro i h k a hk
    unfold laterAll at h
    split at h
    · rename_i hc
      cases k with
      | zero =>
        simp at hk; subst hk
        simp only [Bool.or_eq_true, Nat.beq_eq, or_assoc] at hc
        simpa using hc
      | succ k =>
        have := ih h k a (by simpa using hk)
        rw [show i + (k + 1) = i + 1 + k by omega]
        exact this
    · simp at h

theorem readOk_spec {x : Ent} (h : readOk x = true) (hw : x.wt = true) {b : Nat} (hb : readsOf x.env x.o.op = some b) : b < x.H.n := by
  unfold readOk at h
  rw [hw, hb] at h
  exact blt_iff.1 h

structure PlaceOk (E : Env) (anc : List Nat) (T : List Ent) (p : Nat) (x : Ent) : Prop where
  sub : ∀ j, bit (anc.getD x.i 0) j = true → ∃ (q : Nat) (y : Ent), q < p ∧ T[q]? = some y ∧ y.i = j
  read : x.wt = true → ∀ b, readsOf x.env x.o.op = some b → b < x.H.n
  fresh : ∀ (q : Nat) (y : Ent), q < p → T[q]? = some y → y.i ≠ x.i
  later : x.eff E = true → ∀ j, j < anc.length → j = x.i ∨ (∃ (q : Nat) (y : Ent), q < p ∧ T[q]? = some y ∧ y.i = j) ∨ bit (anc.getD j 0) x.i = true
  still : x.eff E = true → ∀ (q : Nat) (y : Ent), q < p → T[q]? = some y → stableE (anc.getD x.i 0) x.H.clk x.H' y

theorem order_spec {anc : List Nat} : ∀ (T D : List Ent) (done : Nat), (∀ j, bit done j = true ↔ ∃ y ∈ D, y.i = j) → orderOk E anc T done D.reverse = true →
    (∀ (p : Nat) (x : Ent), T[p]? = some x → PlaceOk E anc (D ++ T) (D.length + p) x) ∧ ∀ j, j < anc.length → ∃ y ∈ D ++ T, y.i = j := by
  intro T
  induction T with
  | nil =>
    intro D done hd h
    simp only [orderOk] at h
    refine ⟨by simp, fun j hj => ?_⟩
    have := bit_beq h j
    rw [bit_all] at this
    simp only [hj, decide_true] at this
    simpa using (hd j).1 this
  | cons x T ih =>
    intro D done hd h
    unfold orderOk at h
    split at h
    · rename_i h1
      simp only [Bool.and_eq_true, Bool.not_eq_true'] at h1
      split at h
      · rename_i h2
        have hd' : ∀ j, bit (Nat.lor done (Nat.shiftLeft 1 x.i)) j = true ↔ ∃ y ∈ D ++ [x], y.i = j := by
          intro j
          simp only [bit_or, bit_one, Bool.or_eq_true, hd, decide_eq_true_eq, List.mem_append, List.mem_singleton]
          constructor
          · rintro (⟨y, hy, e⟩ | e)
            · exact ⟨y, .inl hy, e⟩
            · exact ⟨x, .inr rfl, e⟩
          · rintro ⟨y, hy | rfl, e⟩
            · exact .inl ⟨y, hy, e⟩
            · exact .inr e
        have hr : x :: D.reverse = (D ++ [x]).reverse := by simp
        rw [hr] at h
        obtain ⟨k1, k2⟩ := ih (D ++ [x]) _ hd' h
        have happ : D ++ [x] ++ T = D ++ x :: T := by simp
        rw [happ] at k1 k2
        refine ⟨fun p y hp => ?_, k2⟩
        have mem_place : ∀ y ∈ D, ∃ q, q < D.length ∧ (D ++ x :: T)[q]? = some y := by
          intro y hy
          obtain ⟨q, hq, e⟩ := List.mem_iff_getElem.1 hy
          exact ⟨q, hq, by rw [List.getElem?_append_left hq]; simp [hq, e]⟩
        have place_mem : ∀ q y, q < D.length → (D ++ x :: T)[q]? = some y → y ∈ D := by
          intro q y hq e
          rw [List.getElem?_append_left hq] at e
          exact List.mem_of_getElem? e
        cases p with
        | zero =>
          simp at hp; subst hp
          refine ⟨fun j hj => ?_, fun hw b hb => readOk_spec h1.2 hw hb, fun q y hq e hi => ?_, fun he j hj => ?_, fun he q y hq e => ?_⟩
          · obtain ⟨y, hy, e⟩ := (hd j).1 (subset_iff h1.1.1 j hj)
            obtain ⟨q, hq, e'⟩ := mem_place y hy
            exact ⟨q, y, by simpa using hq, e', e⟩
          · have := (hd x.i).2 ⟨y, place_mem q y (by simpa using hq) e, hi⟩
            rw [h1.1.2] at this; cases this
          · rw [he] at h2
            simp only [Bool.and_eq_true] at h2
            have hg : anc[j]? = some (anc.getD j 0) := by
              rw [List.getD_eq_getElem?_getD]; simp [hj]
            rcases laterAll_spec h2.1 j _ hg with e | e | e
            · left; omega
            · rw [Nat.zero_add] at e
              obtain ⟨y, hy, e⟩ := (hd j).1 e
              obtain ⟨q, hq, e'⟩ := mem_place y hy
              exact .inr (.inl ⟨q, y, by simpa using hq, e', e⟩)
            · exact .inr (.inr e)
          · rw [he] at h2
            simp only [Bool.and_eq_true] at h2
            exact stable_spec h2.2 y (by simpa using place_mem q y (by simpa using hq) e)
        | succ p =>
          have := k1 p y (by simpa using hp)
          rw [show D.length + (p + 1) = (D ++ [x]).length + p by simp; omega]
          exact this
      · simp at h
    · simp at h

theorem order_places {anc : List Nat} {T : List Ent} (h : orderOk E anc T 0 [] = true) : (∀ (p : Nat) (x : Ent), T[p]? = some x → PlaceOk E anc T p x) ∧ ∀ j, j < anc.length → ∃ (q : Nat) (y : Ent), T[q]? = some y ∧ y.i = j := by
  obtain ⟨h1, h2⟩ := order_spec T [] 0 (by simp [bit_zero]) (by simpa using h)
  refine ⟨fun p x hp => by simpa using h1 p x hp, fun j hj => ?_⟩
  obtain ⟨y, hy, e⟩ := h2 j hj
  obtain ⟨q, hq, e'⟩ := List.mem_iff_getElem.1 hy
  simp only [List.nil_append] at hq e'
  exact ⟨q, y, by simp [hq, e'], e⟩

/-! ### Who writes what -/

theorem writerOf_none {t : Tmp} : ∀ {os : List Oper} {i : Nat}, writerOf t os i = none → ∀ (k : Nat) (o : Oper), os[k]? = some o → o.dst ≠ some t := by
  intro os
  induction os with
  | nil => intro i _ k o h; simp at h
  | cons x os ih =>
    intro i h k o hk
    unfold writerOf at h
    split at h
    · rename_i d hd
      split at h
      · simp at h
      · rename_i hne
        cases k with
        | zero =>
          simp at hk; subst hk
          rw [hd]; intro e; cases e; simp at hne
        | succ k => exact ih h k o (by simpa using hk)
    · rename_i hd
      cases k with
      | zero => simp at hk; subst hk; rw [hd]; simp
      | succ k => exact ih h k o (by simpa using hk)

theorem writerOf_some {t : Tmp} : ∀ {os : List Oper} {i j : Nat}, writerOf t os i = some j → ∃ o : Oper, os[j - i]? = some o ∧ i ≤ j ∧ o.dst = some t := by
  intro os
  induction os with
  | nil => intro i j h; simp [writerOf] at h
  | cons x os ih =>
    intro i j h
    have next : writerOf t os (i + 1) = some j → ∃ o : Oper, (x :: os)[j - i]? = some o ∧ i ≤ j ∧ o.dst = some t := by
      intro h
      obtain ⟨o, h1, h2, h3⟩ := ih h
      exact ⟨o, by rw [show j - i = (j - (i + 1)) + 1 by omega]; simpa using h1, by omega, h3⟩
    unfold writerOf at h
    split at h
    · rename_i d hd
      split at h
      · rename_i he
        cases h
        exact ⟨x, by simp, Nat.le_refl _, by rw [hd, Nat.eq_of_beq_eq_true he]⟩
      · exact next h
    · exact next h

structure TmpsOk (ops : Array Oper) (anc : List Nat) : Prop where
  one : ∀ (i : Nat) (o : Oper) (d : Tmp), ops[i]? = some o → o.dst = some d → writerOf d ops.toList 0 = some i
  use : ∀ (i : Nat) (o : Oper) (t : Tmp) (j : Nat), ops[i]? = some o → t ∈ usesOf ops o → writerOf t ops.toList 0 = some j → j = i ∨ bit (anc.getD i 0) j = true ∨ bit (anc.getD j 0) i = true

theorem tmps_spec {anc : List Nat} : ∀ (os : List Oper) (i : Nat), tmpsOk ops anc os i = true → ∀ (k : Nat) (o : Oper), os[k]? = some o →
    (∀ d, o.dst = some d → writerOf d ops.toList 0 = some (i + k)) ∧
    ∀ t ∈ usesOf ops o, ∀ j, writerOf t ops.toList 0 = some j → j = i + k ∨ bit (anc.getD (i + k) 0) j = true ∨ bit (anc.getD j 0) (i + k) = true := by
  intro os
  induction os with
  | nil => intro i _ k o h; simp at h
  | cons x os ih =>
    intro i h k o hk
    unfold tmpsOk at h
    split at h
    · rename_i hc
      simp only [Bool.and_eq_true] at hc
      cases k with
      | zero =>
        simp at hk; subst hk
        refine ⟨fun d hd => ?_, fun t ht j hj => ?_⟩
        · have := hc.1
          rw [hd] at this
          simp only at this
          split at this
          · rename_i k hk; rw [hk, Nat.eq_of_beq_eq_true this]; simp
          · simp at this
        · have := List.all_eq_true.1 hc.2 t ht
          rw [hj] at this
          simpa [or_assoc] using this
      | succ k =>
        have := ih (i + 1) h k o (by simpa using hk)
        rw [show i + (k + 1) = i + 1 + k by omega]
        exact this
    · simp at h

theorem tmps_ok {anc : List Nat} (h : tmpsOk ops anc ops.toList 0 = true) : TmpsOk ops anc := by
  refine ⟨fun i o d hi hd => ?_, fun i o t j hi ht hj => ?_⟩
  · have := (tmps_spec ops.toList 0 h i o (by simpa using hi)).1 d hd
    simpa using this
  · have := (tmps_spec ops.toList 0 h i o (by simpa using hi)).2 t ht j hj
    simpa using this

end Go.Ab
