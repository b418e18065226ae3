/- Part of the proof over the seat YtlphbbfoihcgkaaGreat: AbPure. No conditions of its own. -/
import Derived.Test.YtlphbbfoihcgkaaGreatAbMem
import Derived.Laws.StructEq
import GoSem.Dispatch
namespace Go.Ab

/-- The operands of an operation are related. -/
def ER (L : Loc) (R : Rom) (env : Tr AV) (ρ : Operand → Value) (xs : List Operand) : Prop := ∀ x ∈ xs, ∀ a, opnd env x = some a → VR L R a (ρ x)

variable {P : Program} {L : Loc} {R : Rom} {H H' : Hp} {w : World} {E : Env} {call : CallF} {env : Tr AV} {ρ : Operand → Value} {o : Oper} {v : AV}

theorem kEq_eq {k k' : IntKind} (h : kEq k k' = true) : k = k' := by cases k <;> cases k' <;> simp_all [kEq]

/-- A load's address. -/
theorem load_sound {t : Nat} {ti : TI} (ht : TyRel P t ti) (hS : Sim L R H w) {p a : AV} {pv : Value} (hp : VR L R p pv) (h : load H ti p = some a) :
    ∃ val, (Instr.loadAt t pv).run P w = .ok val w ∧ VR L R a val ∧ a.val = true := by
  unfold load at h
  split at h
  · rename_i b off
    split at h
    · rename_i cs hb
      cases hp with
      | ptr _ _ c o sz hL =>
        have hB := hS.blk b _ hL
        rw [hb] at hB
        obtain ⟨C, t', fr, hC, hsz, hlen, hfr, hone, hcells, hrep⟩ := hB
        simp only [Instr.loadAt, Instr.sureAddr, Sem.run_bind, Sem.run_pure, Result.andThen_ok]
        exact ht.run_loadVar h hone (fun j x hx => by
          obtain ⟨v, h1, h2⟩ := hcells j x hx
          exact ⟨v, by rw [cell_of hC]; exact h1, h2⟩)
    · simp at h
  · rename_i m es i off
    split at h
    · rename_i e he
      cases hp with
      | iptr _ _ _ _ c o f hm ho hr hv =>
        simp only [Instr.loadAt, Instr.sureAddr, Sem.run_bind, Sem.run_pure, Result.andThen_ok]
        have hmem := List.mem_of_getElem? he
        exact ht.run_loadVar h (ho e hmem) (fun j x hx => ⟨f i j, hS.rom _ _ _ (hr i e j x he hx), hv i e j x he hx⟩)
    · simp at h
  · simp at h

/-! ### Arithmetic -/

theorem VR.int_inv {k : IntKind} {n : Int} {x : Value} (h : VR L R (.int k n) x) : x = .int k n := by cases h; rfl
theorem VR.bool_inv {b : Bool} {x : Value} (h : VR L R (.bool b) x) : x = .bool b := by cases h; rfl
theorem VR.str_inv {s : List UInt8} {x : Value} (h : VR L R (.str s) x) : x = .string ⟨s.toArray⟩ := by cases h; rfl
theorem VR.nil_inv {u x : Value} (h : VR L R (.nil u) x) : x = u ∧ plainNil u = true := by cases h; exact ⟨rfl, by assumption⟩
theorem VR.nsl_inv {x : Value} (h : VR L R .nsl x) : x = .slice none 0 0 := by cases h; rfl

theorem intOp_sound {op : BinOp} {k : IntKind} {a b : Int} {r : AV} (h : intOp op k a b = some r) (hs : op ≠ .shl ∧ op ≠ .shr) (t : TypeId) :
    ∃ val, (Go.binOp op t (.int k a) (.int k b)).run P w = .ok val w ∧ VR L R r val := by
  cases op with
  | add => simp [intOp] at h; subst h; exact ⟨_, by simp [Go.binOp, Op.intArith], .int _ _⟩
  | sub => simp [intOp] at h; subst h; exact ⟨_, by simp [Go.binOp, Op.intArith], .int _ _⟩
  | mul => simp [intOp] at h; subst h; exact ⟨_, by simp [Go.binOp, Op.intArith], .int _ _⟩
  | quo => simp [intOp] at h; obtain ⟨hb, h⟩ := h; subst h; exact ⟨_, by simp [Go.binOp, Op.intDiv, hb], .int _ _⟩
  | rem => simp [intOp] at h; obtain ⟨hb, h⟩ := h; subst h; exact ⟨_, by simp [Go.binOp, Op.intDiv, hb], .int _ _⟩
  | and => simp only [intOp, Option.some.injEq] at h; subst h; exact ⟨_, by simp only [Go.binOp, Op.intBits, ne_eq, not_true_eq_false, if_false, Sem.run_pure], .int _ _⟩
  | or => simp only [intOp, Option.some.injEq] at h; subst h; exact ⟨_, by simp only [Go.binOp, Op.intBits, ne_eq, not_true_eq_false, if_false, Sem.run_pure], .int _ _⟩
  | xor => simp only [intOp, Option.some.injEq] at h; subst h; exact ⟨_, by simp only [Go.binOp, Op.intBits, ne_eq, not_true_eq_false, if_false, Sem.run_pure], .int _ _⟩
  | andNot => simp only [intOp, Option.some.injEq] at h; subst h; exact ⟨_, by simp only [Go.binOp, Op.intBits, ne_eq, not_true_eq_false, if_false, Sem.run_pure], .int _ _⟩
  | eql => simp [intOp] at h; subst h; exact ⟨_, by simp only [Go.binOp, Op.intCmp, ne_eq, not_true_eq_false, if_false, Sem.run_pure]; rfl, .bool _⟩
  | neq => simp [intOp] at h; subst h; exact ⟨_, by simp only [Go.binOp, Op.intCmp, ne_eq, not_true_eq_false, if_false, Sem.run_pure]; rfl, .bool _⟩
  | lss => simp [intOp] at h; subst h; exact ⟨_, by simp only [Go.binOp, Op.intCmp, ne_eq, not_true_eq_false, if_false, Sem.run_pure], .bool _⟩
  | leq => simp [intOp] at h; subst h; exact ⟨_, by simp only [Go.binOp, Op.intCmp, ne_eq, not_true_eq_false, if_false, Sem.run_pure], .bool _⟩
  | gtr => simp [intOp] at h; subst h; exact ⟨_, by simp only [Go.binOp, Op.intCmp, ne_eq, not_true_eq_false, if_false, Sem.run_pure], .bool _⟩
  | geq => simp [intOp] at h; subst h; exact ⟨_, by simp only [Go.binOp, Op.intCmp, ne_eq, not_true_eq_false, if_false, Sem.run_pure], .bool _⟩
  | shl => exact absurd rfl hs.1
  | shr => exact absurd rfl hs.2

/-! ### Strings -/

theorem bEq_eq : ∀ (a b : List UInt8), bEq a b = (a == b)
  | [], [] => rfl
  | [], _ :: _ => rfl
  | _ :: _, [] => rfl
  | a :: x, b :: y => by
    have h : Nat.beq a.toNat b.toNat = (a == b) := by
      rw [Bool.eq_iff_iff, Nat.beq_eq, beq_iff_eq]
      exact UInt8.toNat_inj
    simp only [bEq, h, List.cons_beq_cons, bEq_eq x y]
    cases a == b <;> rfl

theorem bLess_eq : ∀ (a b : List UInt8), bLess a b = Op.bytesLess a b
  | [], [] => rfl
  | [], _ :: _ => rfl
  | _ :: _, [] => rfl
  | a :: x, b :: y => by
    have h : Nat.beq a.toNat b.toNat = (a == b) := by
      rw [Bool.eq_iff_iff, Nat.beq_eq, beq_iff_eq]
      exact UInt8.toNat_inj
    have h2 : Nat.blt a.toNat b.toNat = decide (a < b) := by
      rw [Bool.eq_iff_iff, decide_eq_true_iff, Nat.blt_eq, UInt8.lt_iff_toNat_lt]
    simp only [bLess, Op.bytesLess, h, h2, bLess_eq x y]
    cases decide (a < b) <;> cases a == b <;> rfl

theorem toList_mk (s : List UInt8) : (ByteArray.mk s.toArray).toList = s := by
  rw [ByteArray.toList_eq]

theorem le_of_bytesLess (a b : List UInt8) : (Op.bytesLess a b || a == b) = !Op.bytesLess b a := by
  induction a generalizing b with
  | nil => cases b <;> rfl
  | cons x a ih =>
    cases b with
    | nil => rfl
    | cons y b =>
      have ih' := ih b
      simp only [Op.bytesLess, List.cons_beq_cons]
      by_cases h : x < y
      · have h2 : ¬ y < x := by simp only [UInt8.lt_iff_toNat_lt] at h ⊢; omega
        have h3 : (y == x) = false := by simp; rintro rfl; simp at h
        simp [h, h2, h3]
      · by_cases h2 : y < x
        · have h3 : (x == y) = false := by simp; rintro rfl; simp at h2
          simp [h, h2, h3]
        · have h3 : x = y := by
            apply UInt8.toNat_inj.1
            simp only [UInt8.lt_iff_toNat_lt] at h h2
            omega
          subst h3
          simp only [h, decide_false, Bool.false_or, beq_self_eq_true, Bool.true_and]
          exact ih'

/-! ### Equality -/


end Go.Ab
