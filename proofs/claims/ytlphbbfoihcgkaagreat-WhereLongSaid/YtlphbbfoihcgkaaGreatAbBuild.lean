/- Part of the proof over the seat YtlphbbfoihcgkaaGreat: AbBuild. No conditions of its own. -/
import Derived.Test.YtlphbbfoihcgkaaGreatAbRead
namespace Go.Ab
variable {P : Program} {L : Loc} {R : Rom} {H H' : Hp} {w : World}

theorem foldl_set (off : Nat) : ∀ (l : List Value) (k : Nat) (cells : Array Value), off + k + l.length ≤ cells.size →
    ((l.zipIdx k).foldl (fun cs (x : Value × Nat) => cs.setIfInBounds (off + x.2) x.1) cells).size = cells.size ∧
    ∀ q, ((l.zipIdx k).foldl (fun cs (x : Value × Nat) => cs.setIfInBounds (off + x.2) x.1) cells)[q]? = if off + k ≤ q ∧ q < off + k + l.length then l[q - (off + k)]? else cells[q]? := by
  intro l
  induction l with
  | nil => intro k cells _; simp; intro q; omega
  | cons v l ih =>
    intro k cells h
    simp only [List.length_cons] at h
    obtain ⟨h1, h2⟩ := ih (k + 1) (cells.setIfInBounds (off + k) v) (by simp; omega)
    simp only [List.zipIdx_cons, List.foldl_cons]
    refine ⟨by rw [h1]; simp, fun q => ?_⟩
    rw [h2]
    simp only [List.length_cons]
    by_cases hq2 : off + (k + 1) ≤ q ∧ q < off + (k + 1) + l.length
    · rw [if_pos hq2, if_pos (by omega)]
      obtain ⟨j, rfl⟩ : ∃ j, q = off + (k + 1) + j := ⟨q - (off + (k + 1)), by omega⟩
      rw [show off + (k + 1) + j - (off + (k + 1)) = j by omega, show off + (k + 1) + j - (off + k) = j + 1 by omega]
      simp
    · rw [if_neg hq2, Array.getElem?_setIfInBounds]
      by_cases hq : q = off + k
      · subst hq
        rw [if_pos rfl, if_pos (by omega), if_pos (by omega)]
        simp
      · rw [if_neg (fun e => hq e.symm), if_neg (by omega)]

theorem overwrite_length {cs vs : List AV} {off : Nat} (h : off + vs.length ≤ cs.length) : (overwrite cs off vs).length = cs.length := by
  simp [overwrite]; omega

theorem overwrite_get {cs vs : List AV} {off : Nat} (h : off + vs.length ≤ cs.length) (q : Nat) : (overwrite cs off vs)[q]? = if off ≤ q ∧ q < off + vs.length then vs[q - off]? else cs[q]? := by
  simp only [overwrite]
  by_cases h1 : q < off
  · rw [List.getElem?_append_left (by simp; omega), List.getElem?_append_left (by simp; omega), List.getElem?_take, if_pos h1, if_neg (by omega)]
  · by_cases h2 : q < off + vs.length
    · rw [List.getElem?_append_left (by simp; omega), List.getElem?_append_right (by simp; omega), if_pos ⟨by omega, h2⟩]
      congr 1
      simp; omega
    · rw [List.getElem?_append_right (by simp; omega), if_neg (by omega), List.getElem?_drop]
      congr 1
      simp; omega

theorem overwrite_one {cs vs : List AV} {off : Nat} (h1 : ∀ a ∈ cs, a.one = true) (h2 : ∀ a ∈ vs, a.one = true) : ∀ a ∈ overwrite cs off vs, a.one = true := by
  intro a ha
  simp only [overwrite, List.mem_append] at ha
  rcases ha with (ha | ha) | ha
  · exact h1 a (List.mem_of_mem_take ha)
  · exact h2 a ha
  · exact h1 a (List.mem_of_mem_drop ha)

/-- Parts of a composite literal. -/
def PartsR (L : Loc) (R : Rom) (l : List (Nat × AV)) (m : List (Nat × Value)) : Prop := l.length = m.length ∧ ∀ (i : Nat) (a : Nat × AV) (b : Nat × Value), l[i]? = some a → m[i]? = some b → a.1 = b.1 ∧ VR L R a.2 b.2

theorem fill_sound {place place' : Nat → Option (Nat × Nat)} (hp : ∀ i x, place i = some x → place' i = some x) : ∀ (l : List (Nat × AV)) (m : List (Nat × Value)) (cs : List AV) (C : Array Value) (cs' : List AV), PartsR L R l m → VRs L R cs C.toList → (∀ a ∈ cs, a.one = true) →
    fill place cs l = some cs' → ∃ C', Instr.fill place' C m = some C' ∧ VRs L R cs' C'.toList ∧ ∀ a ∈ cs', a.one = true := by
  intro l
  induction l with
  | nil =>
    intro m cs C cs' hr hC ho h
    have : m = [] := List.length_eq_zero_iff.1 hr.1.symm
    subst this
    simp [fill] at h; subst h
    exact ⟨C, rfl, hC, ho⟩
  | cons x l ih =>
    intro m cs C cs' hr hC ho h
    obtain ⟨i, a⟩ := x
    cases m with
    | nil => exact absurd hr.1 (by simp)
    | cons y m =>
      obtain ⟨i', v⟩ := y
      obtain ⟨hi, hav⟩ := hr.2 0 _ _ rfl rfl
      simp only at hi hav; subst hi
      simp only [fill] at h
      split at h
      · simp at h
      · rename_i off size hpl
        split at h
        · rename_i hb
          obtain ⟨hval, hsz, hfit⟩ := hb
          obtain ⟨hcells, hone⟩ := hav.cells hval
          have hsz' : v.cells.size = size := by rw [← hsz]; simpa using hcells.1.symm
          have hCs : C.size = cs.length := by simpa using hC.1.symm
          simp only [Instr.fill, hp _ _ hpl]
          rw [if_neg (by simp; omega)]
          refine ih m _ _ cs' ⟨by simpa using hr.1, fun j a b ha hb => hr.2 (j + 1) a b (by simpa using ha) (by simpa using hb)⟩ ?_ (overwrite_one ho hone) h
          have hfs := foldl_set off v.cells.toList 0 C (by simp; omega)
          simp only [Nat.add_zero] at hfs
          have heq : v.cells.zipIdx.foldl (fun cs (x : Value × Nat) => cs.setIfInBounds (off + x.2) x.1) C = (v.cells.toList.zipIdx).foldl (fun cs (x : Value × Nat) => cs.setIfInBounds (off + x.2) x.1) C := by
            rw [← Array.foldl_toList, Array.toList_zipIdx]
          have hlen : off + a.cells.length ≤ cs.length := by omega
          refine ⟨by rw [overwrite_length hlen]; simp only [Array.length_toList]; exact (by rw [← hCs, ← hfs.1, heq]), fun q x y hx hy => ?_⟩
          rw [overwrite_get hlen] at hx
          have hy' : (v.cells.zipIdx.foldl (fun cs (x : Value × Nat) => cs.setIfInBounds (off + x.2) x.1) C)[q]? = some y := by simpa using hy
          rw [heq, hfs.2] at hy'
          simp only [Array.length_toList, hsz'] at hy'
          rw [hsz] at hx
          by_cases hq : off ≤ q ∧ q < off + size
          · rw [if_pos hq] at hx hy'
            exact hcells.2 _ x y hx hy'
          · rw [if_neg hq] at hx hy'
            exact hC.2 q x y hx (by simpa using hy')
        · simp at h

theorem mapM_some_of {α β : Type} {f : α → Option β} : ∀ (l : List α), (∀ x ∈ l, (f x).isSome = true) → ∃ r, l.mapM f = some r ∧ ∀ i : Nat, r[i]? = (l[i]?).bind f
  | [], _ => ⟨[], rfl, by simp⟩
  | x :: l, h => by
    obtain ⟨r, h1, h2⟩ := mapM_some_of l (fun y hy => h y (by simp [hy]))
    obtain ⟨y, hy⟩ := Option.isSome_iff_exists.1 (h x (by simp))
    refine ⟨y :: r, by simp [List.mapM_cons, hy, h1], fun i => ?_⟩
    cases i with
    | zero => simp [hy]
    | succ i => simp [h2]

theorem build_st_sound {ty : Tr TI} (hT : TyOk P ty) {t : Nat} {ti : TI} (ht : TyRel P t ti) {fs : List (Nat × Nat)} (hq : ti.k = .st fs) {l : List (Nat × AV)} {m : Array (Nat × Value)} (hr : PartsR L R l m.toList) {cs : List AV}
    (h : fill (fun i => match fs[i]? with | some (off, ft) => (match ty.get ft with | some fi => some (off, fi.sz) | none => none) | none => none) ti.zero l = some cs) (w : World) :
    ∃ val, (Instr.build t m).run P w = .ok val w ∧ VR L R (.agg cs) val := by
  obtain ⟨d, hd, hk⟩ := ht.und
  rw [hq] at hk
  obtain ⟨gs, rfl, hg⟩ := descOk_st hk
  obtain ⟨it, hit, _, _, z, hz, hzc, _, _⟩ := ht.info
  obtain ⟨hz1, hz2⟩ := VRs.ofCells (L := L) (R := R) hzc
  obtain ⟨places, hp, hpg⟩ := mapM_some_of (f := fun f : Field => (P.info? f.type).map fun i => (f.offset, i.size)) gs.toList (fun f hf => by
    have := ht.flds fs hq (f.offset, f.type) (by rw [← hg]; exact List.mem_map.2 ⟨f, hf, rfl⟩)
    simpa using this)
  obtain ⟨C', e1, e2, e3⟩ := fill_sound (place' := fun i => places.toArray[i]?) (fun i x hx => by
    split at hx
    · rename_i off ft hf
      obtain ⟨g, g1, g2, g3⟩ := field_at hg hf
      split at hx
      · rename_i fi hfi
        simp at hx; subst hx
        obtain ⟨i', hi', hs', _⟩ := (hT _ _ hfi).info
        simp only [List.getElem?_toArray, hpg]
        have : gs.toList[i]? = some g := by simpa using g1
        simp [this, g2, g3, hi', hs']
      · simp at hx
    · simp at hx) l m.toList ti.zero z.cells cs hr hz1 hz2 h
  refine ⟨.agg C', run_build w t m C' ?_, .mk_agg e2 e3⟩
  simp only [Program.built, hit, hd, hz, hp]
  exact e1

theorem build_arr_sound {t : Nat} {ti : TI} (ht : TyRel P t ti) {n e : Nat} (hq : ti.k = .arr n e) {ei : TI} (hei : TyRel P e ei) {l : List (Nat × AV)} {m : Array (Nat × Value)} (hr : PartsR L R l m.toList) {cs : List AV}
    (h : fill (fun i => some (i * ei.sz, ei.sz)) ti.zero l = some cs) (w : World) :
    ∃ val, (Instr.build t m).run P w = .ok val w ∧ VR L R (.agg cs) val := by
  obtain ⟨d, hd, hk⟩ := ht.und
  rw [hq] at hk
  cases descOk_arr hk
  obtain ⟨it, hit, _, _, z, hz, hzc, _, _⟩ := ht.info
  obtain ⟨hz1, hz2⟩ := VRs.ofCells (L := L) (R := R) hzc
  obtain ⟨ie, hie, hs, _⟩ := hei.info
  obtain ⟨C', e1, e2, e3⟩ := fill_sound (place' := fun i => some (i * ie.size, ie.size)) (fun i x hx => by rw [hs]; exact hx) l m.toList ti.zero z.cells cs hr hz1 hz2 h
  refine ⟨.agg C', run_build w t m C' ?_, .mk_agg e2 e3⟩
  simp only [Program.built, hit, hd, hz, hie]
  exact e1

/-! ### A key among some -/

theorem sameNow_sound {kk : TK} {d : TypeDesc} (hk : descOk kk d = true) (hkey : kk.key = true) {a b : AV} {x y : Value} (ha : VR L R a x) (hb : VR L R b y) {t : Bool} (he : eq1 kk a b = some t) : Instr.sameNow d x y = some t := by
  unfold eq1 at he
  split at he
  · split at he
    · rename_i hkk; cases kEq_eq hkk
      simp at he; subst he
      cases d <;> simp [descOk] at hk
      rw [ha.int_inv, hb.int_inv]
      simp [Instr.sameNow]
      rfl
    · simp at he
  · cases d <;> simp [descOk] at hk
    simp at he; subst he; rw [ha.bool_inv, hb.bool_inv]; simp [Instr.sameNow]
  · cases d <;> simp [descOk] at hk
    simp at he; subst he; rw [ha.str_inv, hb.str_inv]; simp [Instr.sameNow, bEq_eq, beq_toListBytes]
  all_goals first | (simp at he; done) | (simp [TK.key] at hkey; done)

theorem findNow_sound {kk : TK} {d : TypeDesc} (hk : descOk kk d = true) (hkey : kk.key = true) {k : AV} {kv : Value} (hkv : VR L R k kv) : ∀ (es : List (AV × AV)) (E : List MapEntry) (i : Nat) (r : Option (Nat × AV)),
    es.length = E.length → (∀ (i : Nat) (e : AV × AV) (x : MapEntry), es[i]? = some e → E[i]? = some x → VR L R e.1 x.key ∧ VR L R e.2 x.val) → findKey kk k es i = some r →
    ∃ r', Instr.findNow d kv E i = some r' ∧ ((r = none ∧ r' = none) ∨ ∃ j a v, r = some (j, a) ∧ r' = some (j, v) ∧ VR L R a v ∧ i ≤ j ∧ j < i + es.length ∧ ∃ e x, es[j - i]? = some e ∧ E[j - i]? = some x ∧ e.2 = a ∧ x.val = v ∧ eq1 kk k e.1 = some true) := by
  intro es
  induction es with
  | nil =>
    intro E i r hl hE h
    have : E = [] := List.length_eq_zero_iff.1 hl.symm
    subst this
    simp [findKey] at h; subst h
    exact ⟨none, rfl, .inl ⟨rfl, rfl⟩⟩
  | cons e es ih =>
    intro E i r hl hE h
    cases E with
    | nil => simp at hl
    | cons x E =>
      obtain ⟨hx1, hx2⟩ := hE 0 e x rfl rfl
      have hsame : ∀ t, eq1 kk k e.1 = some t → Instr.sameNow d kv x.key = some t := by
        intro t he
        exact sameNow_sound hk hkey hkv hx1 he
      simp only [findKey] at h
      split at h
      · rename_i he
        simp at h; subst h
        exact ⟨some (i, x.val), by simp [Instr.findNow, hsame _ he], .inr ⟨i, e.2, x.val, rfl, rfl, hx2, Nat.le_refl _, by simp, e, x, by simp, by simp, rfl, rfl, he⟩⟩
      · rename_i he
        obtain ⟨r', h1, h2⟩ := ih E (i + 1) r (by simpa using hl) (fun j e' x' h1 h2 => hE (j + 1) e' x' (by simpa using h1) (by simpa using h2)) h
        refine ⟨r', by simp [Instr.findNow, hsame _ he, h1], ?_⟩
        rcases h2 with h2 | ⟨j, a, v, h3, h4, h5, h6, h7, e', x', h8, h9, h10⟩
        · exact .inl h2
        · refine .inr ⟨j, a, v, h3, h4, h5, by omega, by simp; omega, e', x', ?_, ?_, h10⟩
          · rw [show j - i = (j - (i + 1)) + 1 by omega]; simpa using h8
          · rw [show j - i = (j - (i + 1)) + 1 by omega]; simpa using h9
      · simp at h

end Go.Ab
