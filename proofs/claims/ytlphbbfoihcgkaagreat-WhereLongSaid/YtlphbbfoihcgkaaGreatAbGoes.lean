/- Part of the proof over the seat YtlphbbfoihcgkaaGreat: AbGoes. No conditions of its own. -/
import Derived.Test.YtlphbbfoihcgkaaGreatAbLift
namespace Go.Ab

/-! ### Runs on values that are not known -/

theorem evFn_prim {E : Env} {r n f : Nat} {p : Prim} (h : E.prim.get f = some p) (args : List AV) (H : Hp) : evFn E r (n + 1) f args H = p args H := by
  simp [evFn, h]

theorem evFn_body {E : Env} {r n f : Nat} {fi : FI} (h : E.prim.get f = none) (h2 : E.fn.get f = some fi) (args : List AV) (H : Hp) : evFn E r (n + 1) f args H = evBody E (evFn E r n) r fi args H := by
  simp [evFn, h, h2]

def Goes (E : Env) (call : CallF) (r : Nat) (c : Code) (env : Tr AV) (H : Hp) (Q : Out → Tr AV → Hp → Prop) : Prop :=
  ∃ out env' H', ev E call r c env H = some (out, env', H') ∧ Q out env' H'

variable {E : Env} {call : CallF} {r : Nat} {env : Tr AV} {H : Hp} {Q : Out → Tr AV → Hp → Prop}

theorem Goes.skip (h : Q .normal env H) : Goes E call r .skip env H Q := ⟨_, _, _, rfl, h⟩
theorem Goes.label {l : Nat} (h : Q .normal env H) : Goes E call r (.label l) env H Q := ⟨_, _, _, rfl, h⟩
theorem Goes.exit {i : Nat} (h : Q (.exit i) env H) : Goes E call r (.exit i) env H Q := ⟨_, _, _, rfl, h⟩
theorem Goes.ret (h : Q .ret env H) : Goes E call r .ret env H Q := ⟨_, _, _, rfl, h⟩

/-- Behind the first piece. -/
def thenGo (K : Tr AV → Hp → Prop) (Q : Out → Tr AV → Hp → Prop) : Out → Tr AV → Hp → Prop
  | .normal, e, h => K e h
  | o, e, h => Q o e h

theorem Goes.seq {a b : Code} (h : Goes E call r a env H (thenGo (fun e h => Goes E call r b e h Q) Q)) : Goes E call r (.seq a b) env H Q := by
  obtain ⟨out, e1, H1, h1, h2⟩ := h
  cases out with
  | normal =>
    obtain ⟨o2, e2, H2, h3, h4⟩ := h2
    exact ⟨o2, e2, H2, by simp only [ev, h1, h3], h4⟩
  | exit i => exact ⟨.exit i, e1, H1, by simp only [ev, h1], h2⟩
  | ret => exact ⟨.ret, e1, H1, by simp only [ev, h1], h2⟩

theorem Goes.cond_t {c : Operand} {a b : Code} (hc : opnd env c = some (.bool true)) (h : Goes E call r a env H Q) : Goes E call r (.cond c a b) env H Q := by
  obtain ⟨o, e, H1, h1, h2⟩ := h
  exact ⟨o, e, H1, by simp only [ev, hc, h1], h2⟩

theorem Goes.cond_f {c : Operand} {a b : Code} (hc : opnd env c = some (.bool false)) (h : Goes E call r b env H Q) : Goes E call r (.cond c a b) env H Q := by
  obtain ⟨o, e, H1, h1, h2⟩ := h
  exact ⟨o, e, H1, by simp only [ev, hc, h1], h2⟩

theorem Goes.cond {c : Operand} {a b : Code} (t : Bool) (hc : opnd env c = some (.bool t)) (h1 : t = true → Goes E call r a env H Q) (h2 : t = false → Goes E call r b env H Q) : Goes E call r (.cond c a b) env H Q := by
  cases t with
  | true => exact .cond_t hc (h1 rfl)
  | false => exact .cond_f hc (h2 rfl)

def inBlk (id : Nat) (Q : Out → Tr AV → Hp → Prop) : Out → Tr AV → Hp → Prop
  | .exit i, e, h => if i = id then Q .normal e h else Q (.exit i) e h
  | o, e, h => Q o e h

theorem Goes.block {id : Nat} {a : Code} (h : Goes E call r a env H (inBlk id Q)) : Goes E call r (.block id a) env H Q := by
  obtain ⟨out, e1, H1, h1, h2⟩ := h
  cases out with
  | normal => exact ⟨.normal, e1, H1, by simp only [ev, h1], h2⟩
  | ret => exact ⟨.ret, e1, H1, by simp only [ev, h1], h2⟩
  | exit i =>
    simp only [inBlk] at h2
    by_cases hi : i = id
    · subst hi
      rw [if_pos rfl] at h2
      exact ⟨.normal, e1, H1, by simp only [ev, h1, Nat.beq_refl], h2⟩
    · rw [if_neg hi] at h2
      have hb : Nat.beq i id = false := by
        cases hq : Nat.beq i id with
        | false => rfl
        | true => exact absurd (Nat.eq_of_beq_eq_true hq) hi
      exact ⟨.exit i, e1, H1, by simp only [ev, h1, hb], h2⟩

theorem Goes.region {id : Nat} {ops : Array Oper} {env' : Tr AV} {H' : Hp} (h : evOps E call ops ops.toList env H = some (env', H')) (hq : Q .normal env' H') : Goes E call r (.region id ops false) env H Q :=
  ⟨.normal, env', H', by simp only [ev, h], hq⟩

theorem Goes.draw {id : Nat} {ops : Array Oper} {env' : Tr AV} {H' : Hp} (h : evDraw E call ops env H = some (env', H')) (hq : Q .normal env' H') : Goes E call r (.region id ops true) env H Q :=
  ⟨.normal, env', H', by simp only [ev, h], hq⟩

theorem evLoop_goes {body : Code} (I : Nat → Tr AV → Hp → Prop) (round : ∀ k env H, I k env H → Goes E call r body env H (thenGo (fun e h => ∃ k', k' < k ∧ I k' e h) Q)) :
    ∀ (n k : Nat) (env : Tr AV) (H : Hp), I k env H → k < n → ∃ out env' H', evLoop (ev E call r body) n env H = some (out, env', H') ∧ Q out env' H' := by
  intro n
  induction n with
  | zero => intro k env H _ hk; omega
  | succ n ih =>
    intro k env H hI hk
    obtain ⟨out, e1, H1, h1, h2⟩ := round k env H hI
    cases out with
    | normal =>
      obtain ⟨k', hk', hI'⟩ := h2
      obtain ⟨o2, e2, H2, h3, h4⟩ := ih k' e1 H1 hI' (by omega)
      exact ⟨o2, e2, H2, by simp only [evLoop, h1, h3], h4⟩
    | exit i => exact ⟨.exit i, e1, H1, by simp only [evLoop, h1], h2⟩
    | ret => exact ⟨.ret, e1, H1, by simp only [evLoop, h1], h2⟩

theorem Goes.loop {body : Code} (I : Nat → Tr AV → Hp → Prop) (k : Nat) (h0 : I k env H) (hk : k < r)
    (round : ∀ k env H, I k env H → Goes E call r body env H (thenGo (fun e h => ∃ k', k' < k ∧ I k' e h) Q)) : Goes E call r (.loop body) env H Q := by
  obtain ⟨o, e, H1, h1, h2⟩ := evLoop_goes I round r k env H h0 hk
  exact ⟨o, e, H1, by simp only [ev]; exact h1, h2⟩

/-- The body of a function. -/
theorem body_goes {fi : FI} {args : List AV} (K : AV → Hp → Prop) (h : Goes E call r fi.body (enter args 0 .leaf) H fun o e h => match o with
      | .exit _ => False
      | _ => ∃ l, resultsOf E e h fi.results = some l ∧ K (match l with | [v] => v | l => .tup l) h) : ∃ v H', evBody E call r fi args H = some (v, H') ∧ K v H' := by
  obtain ⟨o, e, H1, h1, h2⟩ := h
  have key : ∀ l, resultsOf E e H1 fi.results = some l → (match resultsOf E e H1 fi.results with
      | some [v] => some (v, H1)
      | some l => some (.tup l, H1)
      | none => none) = some ((match l with | [v] => v | l => .tup l), H1) := by
    intro l hl
    rw [hl]
    match l with
    | [] => rfl
    | [v] => rfl
    | _ :: _ :: _ => rfl
  cases o with
  | exit i => exact h2.elim
  | normal =>
    obtain ⟨l, hl, hK⟩ := h2
    exact ⟨_, H1, by simp only [evBody, h1]; exact key l hl, hK⟩
  | ret =>
    obtain ⟨l, hl, hK⟩ := h2
    exact ⟨_, H1, by simp only [evBody, h1]; exact key l hl, hK⟩

end Go.Ab
