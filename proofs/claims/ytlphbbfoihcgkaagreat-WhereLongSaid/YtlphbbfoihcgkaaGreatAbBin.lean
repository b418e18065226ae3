/- Part of the proof over the seat YtlphbbfoihcgkaaGreat: AbBin. No conditions of its own. -/
import Derived.Test.YtlphbbfoihcgkaaGreatAbEq
namespace Go.Ab
variable {P : Program} {L : Loc} {R : Rom} {H H' : Hp} {w : World}

theorem binOp_eql_run {t : TypeId} {x y : Value} {r : Bool} (h1 : ∀ k n, x ≠ .int k n) (h2 : ∀ k n, x ≠ .float k n) (h3 : ∀ k n m, x ≠ .complex k n m) (h4 : ∀ s, x ≠ .string s)
    (he : (Op.equal t x y).run P w = .ok r w) : (Go.binOp .eql t x y).run P w = .ok (.bool r) w ∧ (Go.binOp .neq t x y).run P w = .ok (.bool (!r)) w := by
  cases x <;> first | (exact absurd rfl (h1 _ _)) | (exact absurd rfl (h2 _ _)) | (exact absurd rfl (h3 _ _ _)) | (exact absurd rfl (h4 _)) | skip
  all_goals exact ⟨by simp [Go.binOp, he], by simp [Go.binOp, he]⟩

theorem str_run {op : BinOp} {a b : List UInt8} {t : TypeId} {r : Value} (h : (Op.stringOp op ⟨a.toArray⟩ ⟨b.toArray⟩).run P w = .ok r w) : (Go.binOp op t (.string ⟨a.toArray⟩) (.string ⟨b.toArray⟩)).run P w = .ok r w := by
  cases op <;> simpa [Go.binOp] using h

theorem eqAV_shape {ty : Tr TI} {k : TK} {a b : AV} {r : Bool} (h : eqAV ty k a b = some r) (hi : ¬ ∃ k a1 k' b1, a = .int k a1 ∧ b = .int k' b1) :
    (∃ s s', k = .str ∧ a = .str s ∧ b = .str s' ∧ r = bEq s s') ∨ ((∀ k n, a ≠ .int k n) ∧ (∀ s, a ≠ .str s) ∧ a.val = true ∧ a ≠ .nil .nilIface) := by
  unfold eqAV at h
  split at h
  · exact .inr ⟨by simp, by simp, rfl, by simp⟩
  · unfold eq1 at h
    split at h
    · exact absurd ⟨_, _, _, _, rfl, rfl⟩ hi
    · exact .inr ⟨by simp, by simp, rfl, by simp⟩
    · simp at h; exact .inl ⟨_, _, rfl, rfl, rfl, h.symm⟩
    all_goals first | (simp at h; done) | (exact .inr ⟨by simp, by simp, rfl, by simp⟩)

theorem eql_sound {ty : Tr TI} (hT : TyOk P ty) {t : Nat} {ti : TI} (ht : TyRel P t ti) {a b : AV} {x y : Value} {r : Bool} (h : eqAV ty ti.k a b = some r) (hi : ¬ ∃ k a1 k' b1, a = .int k a1 ∧ b = .int k' b1)
    (ha : VR L R a x) (hb : VR L R b y) (w : World) : (Go.binOp .eql t x y).run P w = .ok (.bool r) w ∧ (Go.binOp .neq t x y).run P w = .ok (.bool (!r)) w := by
  rcases eqAV_shape h hi with ⟨s, s', hk, rfl, rfl, rfl⟩ | ⟨h1, h2, h3, h4⟩
  · rw [ha.str_inv, hb.str_inv]
    refine ⟨str_run ?_, str_run ?_⟩ <;> simp [Op.stringOp, bEq_eq]
  · refine binOp_eql_run ?_ ?_ ?_ ?_ (eqAV_sound hT ht h ha hb w).1
    · rintro k n rfl; cases ha with
      | undef => simp [AV.val] at h3
      | int => exact h1 _ _ rfl
      | nil _ hp => simp [plainNil] at hp
    · rintro k n rfl; cases ha with
      | undef => simp [AV.val] at h3
      | nil _ hp => simp [plainNil] at hp
    · rintro k n m rfl; cases ha with
      | undef => simp [AV.val] at h3
      | nil _ hp => simp [plainNil] at hp
    · rintro s rfl; cases ha with
      | undef => simp [AV.val] at h3
      | str => exact h2 _ rfl
      | nil _ hp => simp [plainNil] at hp

theorem binOp_sound {ty : Tr TI} (hT : TyOk P ty) {t : Nat} {ti : TI} (ht : TyRel P t ti) {op : BinOp} {a b r : AV} {x y : Value} (h : binOp ty ti.k op a b = some r)
    (ha : VR L R a x) (hb : VR L R b y) (X Y : Operand) (w : World) :
    ∃ val, (eqGuard op t X Y x y).run P w = .ok () w ∧ (Go.binOp op t x y).run P w = .ok val w ∧ VR L R r val := by
  unfold binOp at h
  split at h
  · -- shl
    rw [ha.int_inv, hb.int_inv]
    split at h
    · simp at h
    · rename_i hn; simp at h; subst h
      exact ⟨_, rfl, by simp [Go.binOp, Op.shift, hn], .int _ _⟩
  · rw [ha.int_inv, hb.int_inv]
    split at h
    · simp at h
    · rename_i hn; simp at h; subst h
      exact ⟨_, rfl, by simp [Go.binOp, Op.shift, hn], .int _ _⟩
  · -- ints
    rename_i k a k' b hs1 hs2
    rw [ha.int_inv, hb.int_inv]
    split at h
    · rename_i hk
      cases kEq_eq hk
      obtain ⟨val, h1, h2⟩ := intOp_sound (P := P) (L := L) (R := R) (w := w) h ⟨hs1, hs2⟩ t
      exact ⟨val, eqGuard_plain _ _ _ _ (by simp) (by simp) _, h1, h2⟩
    · simp at h
  · rw [ha.str_inv, hb.str_inv]
    split at h
    · rename_i s s' hl; simp at h; subst h
      have e : (⟨s.toArray⟩ ++ ⟨s'.toArray⟩ : ByteArray) = ⟨(s ++ s').toArray⟩ := by
        apply ByteArray.ext
        simp
      refine ⟨.string (⟨s.toArray⟩ ++ ⟨s'.toArray⟩), rfl, str_run ?_, e ▸ .str _⟩
      simp only [Op.stringOp]
      rw [if_neg]
      · rfl
      · simp [ByteArray.size, IntKind.max, IntKind.signed, IntKind.bits]; omega
    · simp at h
  · rw [ha.str_inv, hb.str_inv]; simp at h; subst h
    refine ⟨.bool _, rfl, str_run ?_, .bool _⟩
    simp [Op.stringOp, bLess_eq]
  · rw [ha.str_inv, hb.str_inv]; simp at h; subst h
    refine ⟨.bool _, rfl, str_run ?_, .bool _⟩
    simp [Op.stringOp, bLess_eq, le_of_bytesLess]
  · rw [ha.str_inv, hb.str_inv]; simp at h; subst h
    refine ⟨.bool _, rfl, str_run ?_, .bool _⟩
    simp [Op.stringOp, bLess_eq, le_of_bytesLess]
  · rw [ha.str_inv, hb.str_inv]; simp at h; subst h
    refine ⟨.bool _, rfl, str_run ?_, .bool _⟩
    simp [Op.stringOp, bLess_eq]
  · rename_i hi
    split at h
    · rename_i r' he; simp at h; subst h
      have hh : ¬ ∃ k a1 k' b1, a = .int k a1 ∧ b = .int k' b1 := by
        rintro ⟨k, a1, k', b1, rfl, rfl⟩; exact hi _ _ _ _ rfl rfl
      exact ⟨_, (eqAV_sound hT ht he ha hb w).2 _ _ _, (eql_sound hT ht he hh ha hb w).1, .bool _⟩
    · simp at h
  · rename_i hi
    split at h
    · rename_i r' he; simp at h; subst h
      have hh : ¬ ∃ k a1 k' b1, a = .int k a1 ∧ b = .int k' b1 := by
        rintro ⟨k, a1, k', b1, rfl, rfl⟩; exact hi _ _ _ _ rfl rfl
      exact ⟨_, (eqAV_sound hT ht he ha hb w).2 _ _ _, (eql_sound hT ht he hh ha hb w).2, .bool _⟩
    · simp at h
  · simp at h

theorem unOp_sound {op : UnOp} {a r : AV} {x : Value} (h : unOp op a = some r) (ha : VR L R a x) (w : World) : ∃ val, (Op.unary op x).run P w = .ok val w ∧ VR L R r val := by
  unfold unOp at h
  split at h
  · rw [ha.int_inv]; simp only [Option.some.injEq] at h; subst h; exact ⟨_, by simp only [Op.unary, Op.intArith, Sem.run_pure], .int _ _⟩
  · rw [ha.int_inv]
    simp only [intOp, Option.some.injEq] at h
    subst h
    exact ⟨_, by simp only [Op.unary, Op.intBits, Sem.run_pure], .int _ _⟩
  · rw [ha.bool_inv]; simp at h; subst h; exact ⟨_, by simp [Op.unary], .bool _⟩
  · simp at h

end Go.Ab
