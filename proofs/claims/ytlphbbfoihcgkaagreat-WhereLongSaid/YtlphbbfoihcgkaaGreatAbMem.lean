/- Part of the proof over the seat YtlphbbfoihcgkaaGreat: AbMem. No conditions of its own. -/
import Derived.Test.YtlphbbfoihcgkaaGreatAbRel
import Derived.Laws.Cells
import Derived.Laws.Sem
import Derived.Laws.World
namespace Go.Ab

/-! ### Types -/

def descOk : TK → TypeDesc → Bool
  | .int k, .int k' => kEq k k'
  | .bool, .bool => true
  | .str, .string => true
  | .sl e, .slice e' => e == e'
  | .arr n e, .array n' e' => n == n' && e == e'
  | .ptr e, .pointer e' => e == e'
  | .map k e, .map k' e' => k == k' && e == e'
  | .st fs, .struct gs => gs.toList.map (fun f => (f.offset, f.type)) == fs && gs.toList.all (fun f => f.name != "_")
  | .fn, .func .. => true
  | .other, .chan .. => true
  | .other, .interface _ => true
  | .other, .tuple _ => true
  | _, _ => false

/-- What the table says of a type is so. -/
structure TyRel (P : Program) (t : Nat) (ti : TI) : Prop where
  info : ∃ i, P.info? t = some i ∧ i.size = ti.sz ∧ i.bytes = ti.bytes ∧ ∃ z, i.zero = some z ∧ ofCells ofConst1 z.cells.toList = some ti.zero ∧ (ti.isAgg = true → ∃ cs, z = .agg cs) ∧ (ti.isAgg = false → z.cells = #[z])
  desc : ∃ d, P.underlying t = some d ∧ descOk ti.k d = true
  flds : ∀ fs, ti.k = .st fs → ∀ x ∈ fs, (P.info? x.2).isSome = true
  eqg : (∃ fs, ti.k = .st fs) → P.stoodInHeld t = false ∧ P.eqGuardType P.depth t = false

def TyOk (P : Program) (ty : Tr TI) : Prop := ∀ t ti, ty.get t = some ti → TyRel P t ti

variable {P : Program} {t : Nat} {ti : TI} {L : Loc} {R : Rom} {H : Hp} {w : World}

theorem run_und {d : TypeDesc} (h : P.underlying t = some d) (w : World) : (underlying t).run P w = .ok d w := by
  simp [underlying, h]

theorem TyRel.run_size (h : TyRel P t ti) (w : World) : (sizeOf t).run P w = .ok ti.sz w := by
  obtain ⟨i, hi, hs, _⟩ := h.info
  simp [sizeOf, typeInfo, hi, hs]

theorem TyRel.run_isAgg (h : TyRel P t ti) (w : World) : (isAgg t).run P w = .ok ti.isAgg w := by
  obtain ⟨d, hd, hk⟩ := h.desc
  simp only [isAgg, Sem.run_bind, run_und hd, Result.andThen_ok, TI.isAgg]
  cases hq : ti.k <;> cases d <;> simp_all [descOk]

theorem VR.ofConst1 {v : Value} {a : AV} (h : ofConst1 v = some a) : VR L R a v ∧ a.one = true := by
  unfold Ab.ofConst1 at h
  split at h <;> (first | (simp at h; done) | (simp at h; subst h))
  · exact ⟨.int _ _, rfl⟩
  · exact ⟨.bool _, rfl⟩
  · rename_i s; exact ⟨by have := VR.str (L := L) (R := R) (ofBytes s); simpa [ofBytes] using this, rfl⟩
  · exact ⟨.nil _ rfl, rfl⟩
  · exact ⟨.nil _ rfl, rfl⟩
  · exact ⟨.nil _ rfl, rfl⟩
  · exact ⟨.nil _ rfl, rfl⟩
  · exact ⟨.nil _ rfl, rfl⟩
  · exact ⟨.nsl, rfl⟩

theorem VRs.ofCells {vs : List Value} : ∀ {as : List AV}, ofCells ofConst1 vs = some as → VRs L R as vs ∧ ∀ a ∈ as, a.one = true := by
  induction vs with
  | nil => intro as h; simp [Ab.ofCells] at h; subst h; exact ⟨.nil _ _, by simp⟩
  | cons v vs ih =>
    intro as h
    unfold Ab.ofCells at h
    split at h
    · rename_i a ha
      split at h
      · rename_i bs hb
        simp at h; subst h
        obtain ⟨h1, h2⟩ := VR.ofConst1 (L := L) (R := R) ha
        obtain ⟨h3, h4⟩ := ih hb
        exact ⟨.cons h1 h3, by simpa using ⟨h2, h4⟩⟩
      · simp at h
    · simp at h

theorem VR.ofConst {v : Value} {a : AV} (h : ofConst v = some a) : VR L R a v := by
  unfold Ab.ofConst at h
  split at h
  · rename_i cs
    split at h
    · rename_i l hl
      simp at h; subst h
      obtain ⟨h1, h2⟩ := VRs.ofCells (L := L) (R := R) hl
      exact .agg _ _ (by simpa using h1.1) h2 (fun i a v ha hv => h1.2 i a v ha (by simpa using hv))
    · simp at h
  · simp at h; subst h; exact .undef _
  · exact (VR.ofConst1 h).1

theorem TyRel.run_zero (h : TyRel P t ti) (w : World) : ∃ z, (zeroValue t).run P w = .ok z w ∧ (∀ L R, VRs L R ti.zero z.cells.toList ∧ ∀ a ∈ ti.zero, a.one = true) ∧ (ti.isAgg = true → ∃ cs, z = .agg cs) ∧ (ti.isAgg = false → z.cells = #[z]) := by
  obtain ⟨i, hi, _, _, z, hz, hc, ha, hb⟩ := h.info
  exact ⟨z, by simp [zeroValue, typeInfo, hi, hz], fun L R => VRs.ofCells hc, ha, hb⟩

/-! ### Blocks of the world -/

def setBlk (w : World) (c : Nat) (o : Obj) : World := { w with heap := w.heap.setIfInBounds c o }

theorem setBlk_get (w : World) (c : Nat) (o : Obj) (k : Nat) (hc : c < w.heap.size) : (setBlk w c o).heap[k]? = if k = c then some o else w.heap[k]? := by
  simp only [setBlk, Array.getElem?_setIfInBounds]
  by_cases h : c = k
  · subst h; simp [hc]
  · simp [h, Ne.symm h]

theorem setBlk_size (w : World) (c : Nat) (o : Obj) : (setBlk w c o).heap.size = w.heap.size := by simp [setBlk]

theorem cell_of {w : World} {c : Nat} {C : Array Value} {t : TypeId} {fr : Nat × Nat} (h : w.heap[c]? = some (.cells C t fr)) (o : Nat) : w.cell? ⟨c, o, none⟩ = C[o]? := by
  simp [World.cell?, h]

theorem add_none (c o n : Nat) : (⟨c, o, none⟩ : Addr).add n = ⟨c, o + n, none⟩ := by
  unfold Addr.add; split <;> simp_all

theorem lt_of_get {α : Type} {a : Array α} {i : Nat} {x : α} (h : a[i]? = some x) : i < a.size := (Array.getElem?_eq_some_iff.1 h).1

/-- cur with vs laid over it from k on. -/
def lay (cur : Array Value) (k : Nat) (vs : List Value) : Array Value := (cur.toList.take k ++ vs ++ cur.toList.drop (k + vs.length)).toArray

theorem lay_size (cur : Array Value) (k : Nat) (vs : List Value) (h : k + vs.length ≤ cur.size) : (lay cur k vs).size = cur.size := by
  simp [lay]; omega

theorem lay_get (cur : Array Value) (k : Nat) (vs : List Value) (h : k + vs.length ≤ cur.size) (j : Nat) : (lay cur k vs)[j]? = if k ≤ j ∧ j < k + vs.length then vs[j - k]? else cur[j]? := by
  simp only [lay, List.getElem?_toArray]
  by_cases h1 : j < k
  · rw [List.getElem?_append_left (by simp; omega), List.getElem?_append_left (by simp; omega), List.getElem?_take, if_pos h1, if_neg (by omega)]
    simp
  · by_cases h2 : j < k + vs.length
    · rw [List.getElem?_append_left (by simp; omega), List.getElem?_append_right (by simp; omega), if_pos ⟨by omega, h2⟩]
      congr 1
      simp; omega
    · rw [List.getElem?_append_right (by simp; omega), if_neg (by omega), List.getElem?_drop]
      simp
      congr 1
      omega

theorem frozen_of {w : World} {c : Nat} {C : Array Value} {t : TypeId} {fr : Nat × Nat} (h : w.heap[c]? = some (.cells C t fr)) (o : Nat) (hf : ¬ (fr.1 ≤ o ∧ o < fr.2)) : w.frozen? ⟨c, o, none⟩ = false := by
  obtain ⟨lo, hi⟩ := fr
  simp only [World.frozen?, h]
  simp only [Bool.and_eq_false_iff, decide_eq_false_iff_not]
  simp only at hf
  omega

theorem setCell_eq {w : World} {c : Nat} {C : Array Value} {t : TypeId} {fr : Nat × Nat} (h : w.heap[c]? = some (.cells C t fr)) (o : Nat) (v : Value) : w.setCell ⟨c, o, none⟩ v = setBlk w c (.cells (C.setIfInBounds o v) t fr) := by
  have hc := lt_of_get h
  simp only [World.setCell, setBlk]
  congr 1
  apply Array.ext_getElem?
  intro k
  rw [Array.getElem?_modify, Array.getElem?_setIfInBounds]
  by_cases hk : c = k
  · subst hk; rw [if_pos rfl, if_pos rfl, if_pos hc, h]; rfl
  · simp [hk]

theorem setBlk_setBlk (w : World) (c : Nat) (o o' : Obj) : setBlk (setBlk w c o) c o' = setBlk w c o' := by
  simp [setBlk]

theorem setBlk_self {w : World} {c : Nat} {o : Obj} (h : w.heap[c]? = some o) : setBlk w c o = w := by
  have hc := lt_of_get h
  have : w.heap.setIfInBounds c o = w.heap := by
    apply Array.ext_getElem?
    intro k
    rw [Array.getElem?_setIfInBounds]
    by_cases hk : c = k
    · subst hk; rw [if_pos rfl, if_pos hc, h]
    · simp [hk]
  simp [setBlk, this]

theorem run_storeCells (P : Program) (g o : Nat) (t : TypeId) (fz : Nat × Nat) : ∀ (vs : List Value) (i : Nat) (cur : Array Value) (w : World), w.heap[g]? = some (.cells cur t fz) →
    (∀ j, j < cur.size → ¬ (fz.1 ≤ j ∧ j < fz.2)) → o + i + vs.length ≤ cur.size → (∀ v ∈ vs, v.oneCell' = true) →
    (storeCells ⟨g, o, none⟩ vs i).run P w = .ok () (setBlk w g (.cells (lay cur (o + i) vs) t fz)) := by
  intro vs
  induction vs with
  | nil =>
    intro i cur w hg _ _ _
    have : lay cur (o + i) [] = cur := by simp [lay]
    simp only [storeCells, Sem.run_pure, this, setBlk_self hg]
  | cons v rest ih =>
    intro i cur w hg hfz hl h1
    have hi : o + i < cur.size := by simp at hl; omega
    have hcell : w.cell? ⟨g, o + i, none⟩ = some cur[o + i] := by rw [cell_of hg]; simp
    have hfro := frozen_of hg (o + i) (hfz _ hi)
    have hst : (Go.store ((⟨g, o, none⟩ : Addr).add i) v).run P w = .ok () (setBlk w g (.cells (cur.setIfInBounds (o + i) v) t fz)) := by
      rw [add_none, run_store P w _ v _ (h1 v (by simp)), hcell]
      simp [hfro, setCell_eq hg]
    have hg' : (setBlk w g (.cells (cur.setIfInBounds (o + i) v) t fz)).heap[g]? = some (.cells (cur.setIfInBounds (o + i) v) t fz) := by
      rw [setBlk_get _ _ _ _ (lt_of_get hg), if_pos rfl]
    have ih' := ih (i + 1) _ _ hg' (by simpa using hfz) (by simp at hl ⊢; omega) (fun x hx => h1 x (by simp [hx]))
    simp only [storeCells, Sem.run_bind, hst, Result.andThen_ok, ih', setBlk_setBlk]
    congr 3
    apply Array.ext_getElem?
    intro j
    have hl' : o + (i + 1) + rest.length ≤ (cur.setIfInBounds (o + i) v).size := by simp at hl ⊢; omega
    rw [lay_get _ _ _ hl', lay_get _ _ _ hl, Array.getElem?_setIfInBounds]
    simp only [List.length_cons]
    by_cases h1 : o + (i + 1) ≤ j ∧ j < o + (i + 1) + rest.length
    · rw [if_pos h1, if_pos (by omega)]
      obtain ⟨q, rfl⟩ : ∃ q, j = o + (i + 1) + q := ⟨j - (o + (i + 1)), by omega⟩
      rw [show o + (i + 1) + q - (o + (i + 1)) = q by omega, show o + (i + 1) + q - (o + i) = q + 1 by omega]
      simp
    · rw [if_neg h1]
      by_cases h2 : o + i = j
      · subst h2
        rw [if_pos rfl, if_pos (by omega)]
        simp
      · rw [if_neg h2, if_neg (by omega)]

/-! ### Loads -/

theorem part_eq {cs : List AV} {off : Nat} {a : AV} (h : part ti cs off = some a) :
    off + ti.sz ≤ cs.length ∧ ((ti.isAgg = true ∧ a = .agg ((cs.drop off).take ti.sz)) ∨ (ti.isAgg = false ∧ ti.sz = 1 ∧ cs[off]? = some a)) := by
  unfold part at h
  split at h
  · rename_i hl
    split at h
    · rename_i hq; simp at h; exact ⟨hl, .inl ⟨hq, h.symm⟩⟩
    · rename_i hq
      split at h
      · rename_i h1; exact ⟨hl, .inr ⟨hq, h1, h⟩⟩
      · simp at h
  · simp at h

/-- A variable at an address, whose cells are known. -/
theorem TyRel.run_loadVar (h : TyRel P t ti) {c o : Nat} {cs : List AV} {off : Nat} {a : AV} (hp : part ti cs off = some a) (ho : ∀ x ∈ cs, x.one = true)
    (hc : ∀ (j : Nat) (x : AV), cs[j]? = some x → ∃ v, w.cell? ⟨c, o + j, none⟩ = some v ∧ VR L R x v) :
    ∃ v, (loadVar t ⟨c, o + off, none⟩).run P w = .ok v w ∧ VR L R a v ∧ a.val = true := by
  obtain ⟨hl, ⟨hq, rfl⟩ | ⟨hq, h1, ha⟩⟩ := part_eq hp
  · have hex : ∀ j, j < ti.sz → ∃ v, w.cell? ⟨c, o + (off + j), none⟩ = some v ∧ ∀ x, cs[off + j]? = some x → VR L R x v := by
      intro j hj
      have hlt : off + j < cs.length := by omega
      obtain ⟨v, h1, h2⟩ := hc (off + j) cs[off + j] (by simp [hlt])
      exact ⟨v, h1, fun x hx => by rw [List.getElem?_eq_getElem hlt] at hx; cases hx; exact h2⟩
    let f : Nat → Value := fun j => if hj : j < ti.sz then (hex j hj).choose else undef
    have hf : ∀ j, j < ti.sz → w.cell? ⟨c, o + (off + j), none⟩ = some (f j) ∧ ∀ x, cs[off + j]? = some x → VR L R x (f j) := by
      intro j hj
      simp only [f, hj, dif_pos]
      exact (hex j hj).choose_spec
    let vs := (List.range ti.sz).map f
    have hrun := run_loadCells_list (P := P) w ⟨c, o + off, none⟩ vs (by
      intro j v hv
      simp only [vs, List.getElem?_map] at hv
      by_cases hj : j < ti.sz
      · simp [hj] at hv
        subst hv
        rw [add_none, Nat.add_assoc]; exact (hf j hj).1
      · simp [hj] at hv)
    refine ⟨.agg vs.toArray, ?_, ?_, rfl⟩
    · have hlen : vs.length = ti.sz := by simp [vs]
      rw [hlen] at hrun
      simp only [loadVar, Sem.run_bind, h.run_isAgg, Result.andThen_ok, hq, if_true, h.run_size, hrun, Sem.run_pure]
    · refine .agg _ _ (by simp [vs]; omega) (fun x hx => ho x (List.mem_of_mem_drop (List.mem_of_mem_take hx))) (fun i x v hx hv => ?_)
      rw [List.getElem?_take] at hx
      split at hx
      · rename_i hi
        rw [List.getElem?_drop] at hx
        simp [vs, hi] at hv
        subst hv
        exact (hf i hi).2 x hx
      · simp at hx
  · obtain ⟨v, hv, hr⟩ := hc off a ha
    have hone := ho a (List.mem_of_getElem? ha)
    refine ⟨v, ?_, hr, by cases a <;> simp_all [AV.one, AV.val]⟩
    simp only [loadVar, Sem.run_bind, h.run_isAgg, Result.andThen_ok, hq, Bool.false_eq_true, if_false, run_load, hv]

end Go.Ab
