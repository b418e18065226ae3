/- Part of the proof over the seat YtlphbbfoihcgkaaGreat: AbAddr. No conditions of its own. -/
import Derived.Test.YtlphbbfoihcgkaaGreatAbBin
import Derived.Lib.Strings
namespace Go.Ab
variable {P : Program} {L : Loc} {R : Rom} {H H' : Hp} {w : World}

theorem natOf_eq {a : AV} {n : Nat} (h : natOf a = some n) : ∃ k, a = .int k n := by
  unfold natOf at h
  split at h
  · rename_i k m
    split at h
    · simp at h; subst h; exact ⟨k, rfl⟩
    · simp at h
  · simp at h

theorem natOf_val {a : AV} {n : Nat} {x : Value} (h : natOf a = some n) (ha : VR L R a x) : ∃ k, x = .int k n := by
  obtain ⟨k, rfl⟩ := natOf_eq h
  exact ⟨k, ha.int_inv⟩

/-- An optional bound. -/
def OptR (L : Loc) (R : Rom) : Option AV → Option Value → Prop
  | none, none => True
  | some a, some v => VR L R a v
  | _, _ => False

theorem sliceBound_run {k : IntKind} {n y : Nat} (h : n ≤ y) (code : BoundsCode) (w : World) : (Instr.sliceBound (.int k n) y code).run P w = .ok n w := by
  simp [Instr.sliceBound, asIntOf, h]

/-- The bounds of a slice expression without a third index. -/
theorem bounds_run {lo hi : Option AV} {lov hiv : Option Value} (hl : OptR L R lo lov) (hh : OptR L R hi hiv) {len cap l h : Nat} (h1 : natOr 0 lo = some l) (h2 : natOr len hi = some h)
    (hlh : l ≤ h) (hc : h ≤ cap) (isSl : Bool) (w : World) : (Instr.sliceBounds isSl len cap lov hiv none).run P w = .ok (l, h, cap) w := by
  have e2 : ∀ code : BoundsCode, hi ≠ none → ∃ v, hiv = some v ∧ (Instr.sliceBound v cap code).run P w = .ok h w := by
    intro code hne
    cases hi with
    | none => exact absurd rfl hne
    | some a =>
      cases hiv with
      | none => exact hh.elim
      | some v =>
        obtain ⟨k, rfl⟩ := natOf_val h2 hh
        exact ⟨_, rfl, sliceBound_run hc code w⟩
  have e1 : ∀ code : BoundsCode, lo ≠ none → ∃ v, lov = some v ∧ (Instr.sliceBound v h code).run P w = .ok l w := by
    intro code hne
    cases lo with
    | none => exact absurd rfl hne
    | some a =>
      cases lov with
      | none => exact hl.elim
      | some v =>
        obtain ⟨k, rfl⟩ := natOf_val h1 hl
        exact ⟨_, rfl, sliceBound_run hlh code w⟩
  cases lo with
  | none =>
    cases lov with
    | some v => exact hl.elim
    | none =>
      simp [natOr] at h1; subst h1
      cases hi with
      | none =>
        cases hiv with
        | some v => exact hh.elim
        | none => simp [natOr] at h2; subst h2; simp [Instr.sliceBounds]
      | some a =>
        obtain ⟨v, rfl, e⟩ := e2 (if isSl then .sliceAcap else .sliceAlen) (by simp)
        simp [Instr.sliceBounds, e]
  | some b =>
    obtain ⟨u, rfl, e'⟩ := e1 .sliceB (by simp)
    cases hi with
    | none =>
      cases hiv with
      | some v => exact hh.elim
      | none => simp [natOr] at h2; subst h2; simp [Instr.sliceBounds, e']
    | some a =>
      obtain ⟨v, rfl, e⟩ := e2 (if isSl then .sliceAcap else .sliceAlen) (by simp)
      simp [Instr.sliceBounds, e, e']

theorem add_map_none (c o n : Nat) (q : Prop) [Decidable q] : (if q then (⟨c, o, none⟩ : Addr) else (⟨c, o, none⟩ : Addr).add n) = if q then ⟨c, o, none⟩ else ⟨c, o + n, none⟩ := by
  split <;> simp [add_none]

/-- Rows: elements from l on. -/
theorem VR.imm_drop {m : Nat} {es : List AV} {c o cap l h : Nat} {f : Nat → Nat → Value} {nn : Bool}
    (hm : ∀ e ∈ es, e.cells.length = m) (ho : ∀ e ∈ es, ∀ a ∈ e.cells, a.one = true)
    (hr : ∀ (i : Nat) (e : AV) (j : Nat) (a : AV), es[i]? = some e → e.cells[j]? = some a → R c (o + i * m + j) = some (f i j))
    (hv : ∀ (i : Nat) (e : AV) (j : Nat) (a : AV), es[i]? = some e → e.cells[j]? = some a → VR L R a (f i j))
    (hl : l ≤ h) (hh : h ≤ es.length) (hc : h - l ≤ cap) : VR L R (.imm nn m ((es.drop l).take (h - l))) (.slice (some ⟨c, o + l * m, none⟩) (h - l) cap) := by
  have hlen : ((es.drop l).take (h - l)).length = h - l := by simp; omega
  have hmem : ∀ e ∈ (es.drop l).take (h - l), e ∈ es := fun e he => List.mem_of_mem_drop (List.mem_of_mem_take he)
  have hget : ∀ (i : Nat) (e : AV), ((es.drop l).take (h - l))[i]? = some e → es[l + i]? = some e := by
    intro i e he
    rw [List.getElem?_take] at he
    split at he
    · rwa [List.getElem?_drop] at he
    · simp at he
  have := VR.imm (L := L) (R := R) nn m ((es.drop l).take (h - l)) c (o + l * m) cap (fun i j => f (l + i) j) (fun e he => hm e (hmem e he)) (fun e he => ho e (hmem e he))
    (fun i e j a he ha => by rw [← hr (l + i) e j a (hget i e he) ha]; congr 1; rw [Nat.add_mul]; omega)
    (fun i e j a he ha => hv (l + i) e j a (hget i e he) ha) (by omega)
  rwa [hlen] at this

theorem sliceOp_sound {ty : Tr TI} (hT : TyOk P ty) {t : Nat} {ti : TI} (ht : TyRel P t ti) {x r : AV} {xv : Value} {lo hi : Option AV} {lov hiv : Option Value}
    (hx : VR L R x xv) (hl : OptR L R lo lov) (hh : OptR L R hi hiv) (h : sliceOp ti ty x lo hi = some r) (w : World) :
    ∃ val, (Instr.sliceAt t xv lov hiv none).run P w = .ok val w ∧ VR L R r val := by
  obtain ⟨d, hd, hk⟩ := ht.und
  unfold sliceOp at h
  split at h
  · -- a text
    rename_i hq
    rw [hq] at hk
    cases d <;> simp [descOk] at hk
    split at h
    · rename_i s l hl0
      split at h
      · rename_i h' hh0
        split at h
        · rename_i hb
          simp at h; subst h
          rw [hx.str_inv]
          have hsz : (⟨s.toArray⟩ : ByteArray).size = s.length := by simp [ByteArray.size]
          have hrun := bounds_run (P := P) hl hh hl0 hh0 hb.1 hb.2 false w
          refine ⟨.string ((⟨s.toArray⟩ : ByteArray).extract l h'), ?_, ?_⟩
          · simp only [Instr.sliceAt, Instr.slice, Sem.run_bind, run_und hd, Result.andThen_ok, hsz, hrun, Option.isSome_none, Bool.false_eq_true, if_false, Sem.run_pure]
          · have : (⟨s.toArray⟩ : ByteArray).extract l h' = ⟨((s.drop l).take (h' - l)).toArray⟩ := by
              apply ByteArray.ext
              apply Array.toList_inj.1
              rw [Lib.extract_data]
            rw [this]; exact .str _
        · simp at h
      · simp at h
    · simp at h
  · -- a slice
    rename_i e hq
    rw [hq] at hk
    cases d <;> simp [descOk] at hk
    subst hk
    split at h
    · rename_i ei l hei hl0
      have hei := hT _ _ hei
      split at h
      · -- nil
        split at h
        · rename_i hh0
          split at h
          · rename_i hl1; subst hl1
            simp at h; subst h
            rw [hx.nsl_inv]
            have hrun := bounds_run (P := P) hl hh hl0 hh0 (Nat.le_refl 0) (Nat.le_refl 0) true w
            exact ⟨.slice none 0 0, by simp [Instr.sliceAt, Instr.slice, run_und hd, hrun, hei.run_size], .nsl⟩
          · simp at h
        · simp at h
      · -- immutable
        rename_i nn m es
        split at h
        · rename_i h' hh0
          split at h
          · rename_i hb
            obtain ⟨rfl, hb1, hb2⟩ := hb
            cases hx with
            | immNil _ =>
              simp at hb2; subst hb2
              simp at hb1; subst hb1
              have hrun := bounds_run (P := P) (len := 0) hl hh hl0 hh0 (Nat.le_refl 0) (Nat.le_refl 0) true w
              simp at h; subst h
              exact ⟨.slice none 0 0, by simp [Instr.sliceAt, Instr.slice, run_und hd, hrun, hei.run_size], .immNil _⟩
            | imm _ _ _ c o cap f hm ho hr hv hc =>
              have hrun := bounds_run (P := P) hl hh hl0 hh0 hb1 (Nat.le_trans hb2 hc) true w
              have hres : (Instr.sliceAt t (.slice (some ⟨c, o, none⟩) es.length cap) lov hiv none).run P w = .ok (.slice (some (if cap = l then ⟨c, o, none⟩ else ⟨c, o + l * ei.sz, none⟩)) (h' - l) (cap - l)) w := by
                simp only [Instr.sliceAt, Instr.slice, Sem.run_bind, run_und hd, Result.andThen_ok, hrun, hei.run_size, Sem.run_pure, Option.map_some, add_none]
                split <;> rfl
              refine ⟨_, hres, ?_⟩
              have hdrop := VR.imm_drop (L := L) (R := R) (nn := false) (cap := cap - l) hm ho hr hv hb1 hb2 (by omega)
              split at h
              · rename_i h0; subst h0
                simp at h; subst h
                simp only [Nat.sub_zero, Nat.zero_mul, Nat.add_zero, List.drop_zero] at hdrop ⊢
                split <;> exact hdrop
              · simp at h; subst h
                by_cases hcl : cap = l
                · have hz : h' - l = 0 := by omega
                  rw [if_pos hcl, hz]
                  simp only [List.take_zero]
                  exact .imm false _ [] c o (cap - l) (fun _ _ => .nilFunc) (by simp) (by simp) (by simp) (by simp) (by simp)
                · rw [if_neg hcl]; exact hdrop
          · simp at h
        · simp at h
      · -- its own
        rename_i b off len m cap ex
        split at h
        · rename_i h' hh0
          split at h
          · rename_i hb
            obtain ⟨rfl, hb1, hb2⟩ := hb
            cases hx with
            | ref _ _ _ _ _ _ c o sz cap' hL hlen hcap hex hroom =>
              have hle : h' ≤ cap' := by omega
              have hrun := bounds_run (P := P) hl hh hl0 hh0 hb1 hle true w
              have hres : (Instr.sliceAt t (.slice (some ⟨c, o + off, none⟩) len cap') lov hiv none).run P w = .ok (.slice (some (if cap' = l then ⟨c, o + off, none⟩ else ⟨c, o + off + l * ei.sz, none⟩)) (h' - l) (cap' - l)) w := by
                simp only [Instr.sliceAt, Instr.slice, Sem.run_bind, run_und hd, Result.andThen_ok, hrun, hei.run_size, Sem.run_pure, Option.map_some, add_none]
                split <;> rfl
              refine ⟨_, hres, ?_⟩
              split at h
              · rename_i h0; subst h0
                simp at h; subst h
                simp only [Nat.sub_zero, Nat.zero_mul, Nat.add_zero]
                have := VR.ref (L := L) (R := R) b off h' ei.sz cap ex c o sz cap' hL hle hcap hex hroom
                split <;> exact this
              · split at h
                · rename_i hlt
                  simp at h; subst h
                  rw [if_neg (by omega), Nat.add_assoc]
                  refine .ref b (off + l * ei.sz) (h' - l) ei.sz (cap - l) ex c o sz (cap' - l) hL (by omega) (by omega) (fun e => by rw [hex e]) ?_
                  have : l * ei.sz + (cap' - l) * ei.sz = cap' * ei.sz := by rw [← Nat.add_mul]; congr 1; omega
                  omega
                · rename_i hlt
                  simp at h; subst h
                  have hz : h' - l = 0 := by omega
                  rw [hz]
                  split <;> exact .imm false _ [] c _ (cap' - l) (fun _ _ => .nilFunc) (by simp) (by simp) (by simp) (by simp) (by simp)
          · simp at h
        · simp at h
      · simp at h
    · simp at h
  · simp at h

/-! ### Fields, elements -/

theorem descOk_st {fs : List (Nat × Nat)} {d : TypeDesc} (h : descOk (.st fs) d = true) : ∃ gs, d = .struct gs ∧ gs.toList.map (fun f => (f.offset, f.type)) = fs := by
  cases d <;> simp only [descOk, Bool.false_eq_true, Bool.and_eq_true, beq_iff_eq] at h
  exact ⟨_, rfl, h.1⟩
theorem descOk_sl {e : Nat} {d : TypeDesc} (h : descOk (.sl e) d = true) : d = .slice e := by
  cases d <;> simp [descOk] at h; subst h; rfl
theorem descOk_arr {n e : Nat} {d : TypeDesc} (h : descOk (.arr n e) d = true) : d = .array n e := by
  cases d <;> simp [descOk] at h; obtain ⟨rfl, rfl⟩ := h; rfl
theorem descOk_map {k e : Nat} {d : TypeDesc} (h : descOk (.map k e) d = true) : d = .map k e := by
  cases d <;> simp [descOk] at h; obtain ⟨rfl, rfl⟩ := h; rfl

theorem field_at {gs : Array Field} {fs : List (Nat × Nat)} (h : gs.toList.map (fun f => (f.offset, f.type)) = fs) {f off ft : Nat} (hf : fs[f]? = some (off, ft)) :
    ∃ g, gs[f]? = some g ∧ g.offset = off ∧ g.type = ft := by
  subst h
  simp only [List.getElem?_map, Option.map_eq_some_iff, Array.getElem?_toList, Prod.mk.injEq] at hf
  obtain ⟨g, h1, h2, h3⟩ := hf
  exact ⟨g, h1, h2, h3⟩

/-- An address of a part. -/
theorem fieldAt_run {t : Nat} {ti : TI} (ht : TyRel P t ti) {fs : List (Nat × Nat)} (hq : ti.k = .st fs) {f off ft : Nat} (hf : fs[f]? = some (off, ft)) {fi : TI} (hft : TyRel P ft fi) (hz : fi.sz ≠ 0)
    (c o : Nat) (w : World) : (Instr.fieldAt t (.pointer (some ⟨c, o, none⟩)) f).run P w = .ok (.pointer (some ⟨c, o + off, none⟩)) w := by
  obtain ⟨d, hd, hk⟩ := ht.und
  rw [hq] at hk
  obtain ⟨gs, rfl, hg⟩ := descOk_st hk
  obtain ⟨g, h1, rfl, rfl⟩ := field_at hg hf
  simp [Instr.fieldAt, run_und hd, h1, Instr.sureAddr, fieldPlace, hft.run_size, hz, add_none]

theorem indexAt_slice_run {t e : Nat} (hd : P.underlying t = some (.slice e)) {ei : TI} (hei : TyRel P e ei) {k : IntKind} {n len cap c o : Nat} (hn : n < len) (w : World) :
    (Instr.indexAt t (.slice (some ⟨c, o, none⟩) len cap) (.int k n)).run P w = .ok (.pointer (some ⟨c, o + n * ei.sz, none⟩)) w := by
  simp [Instr.indexAt, asIntOf, run_und hd, hei.run_size, hn, add_none]

theorem indexAt_array_run {t e len : Nat} (hd : P.underlying t = some (.array len e)) {ei : TI} (hei : TyRel P e ei) {k : IntKind} {n c o : Nat} (hn : n < len) (w : World) :
    (Instr.indexAt t (.pointer (some ⟨c, o, none⟩)) (.int k n)).run P w = .ok (.pointer (some ⟨c, o + n * ei.sz, none⟩)) w := by
  simp [Instr.indexAt, asIntOf, run_und hd, hei.run_size, hn, add_none, Instr.sureAddr]

/-- Part of an aggregate value. -/
theorem part_sound {t : Nat} {ti : TI} (ht : TyRel P t ti) {cs : List AV} {vs : Array Value} (hv : VRs L R cs vs.toList) (ho : ∀ a ∈ cs, a.one = true) {off : Nat} {a : AV} (h : part ti cs off = some a) (w : World) :
    ∃ v, (Go.part t vs off).run P w = .ok v w ∧ VR L R a v ∧ a.val = true := by
  obtain ⟨hl, ⟨hq, rfl⟩ | ⟨hq, h1, ha⟩⟩ := part_eq h
  · refine ⟨.agg (vs.extract off (off + ti.sz)), by simp [Go.part, ht.run_isAgg, hq, ht.run_size], ?_, rfl⟩
    refine .mk_agg ?_ (fun x hx => ho x (List.mem_of_mem_drop (List.mem_of_mem_take hx)))
    have := (hv.drop off).take ti.sz
    simpa [Array.toList_extract, List.extract_eq_take_drop] using this
  · obtain ⟨v, h2, h3⟩ := hv.get ha
    have hone := ho a (List.mem_of_getElem? ha)
    exact ⟨v, part_one ht hq (by simpa using h2) w, h3, by cases a <;> simp_all [AV.one, AV.val]⟩

end Go.Ab
