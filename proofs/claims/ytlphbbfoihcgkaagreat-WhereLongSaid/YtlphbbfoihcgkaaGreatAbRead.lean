/- Part of the proof over the seat YtlphbbfoihcgkaaGreat: AbRead. No conditions of its own. -/
import Derived.Test.YtlphbbfoihcgkaaGreatAbAddr
namespace Go.Ab
variable {P : Program} {L : Loc} {R : Rom} {H H' : Hp} {w : World}

theorem exists_list {α : Type} (Q : Nat → α → Prop) : ∀ (n : Nat), (∀ q, q < n → ∃ v, Q q v) → ∃ vs : List α, vs.length = n ∧ ∀ (q : Nat) (v : α), vs[q]? = some v → Q q v := by
  intro n
  induction n with
  | zero => intro _; exact ⟨[], rfl, by simp⟩
  | succ n ih =>
    intro h
    obtain ⟨vs, h1, h2⟩ := ih (fun q hq => h q (by omega))
    obtain ⟨v, hv⟩ := h n (by omega)
    refine ⟨vs ++ [v], by simp [h1], fun q u hu => ?_⟩
    by_cases hq : q < n
    · rw [List.getElem?_append_left (by omega)] at hu; exact h2 q u hu
    · have : q = n := by
        have := (List.getElem?_eq_some_iff.1 hu).1
        simp [h1] at this; omega
      subst this
      rw [List.getElem?_append_right (by omega)] at hu
      simp [h1] at hu; subst hu; exact hv

theorem flat_length {m : Nat} : ∀ (es : List AV), (∀ e ∈ es, e.cells.length = m) → (flat es).length = es.length * m
  | [], _ => by simp [flat]
  | e :: es, h => by
    have := flat_length es (fun x hx => h x (by simp [hx]))
    simp only [flat] at this ⊢
    simp [this, h e (by simp), Nat.add_mul, Nat.add_comm]

theorem flat_get {m : Nat} : ∀ (es : List AV), (∀ e ∈ es, e.cells.length = m) → ∀ (q : Nat) (a : AV), (flat es)[q]? = some a →
    ∃ i j e, es[i]? = some e ∧ e.cells[j]? = some a ∧ q = i * m + j := by
  intro es
  induction es with
  | nil => intro _ q a h; simp [flat] at h
  | cons e es ih =>
    intro hm q a h
    have he := hm e (by simp)
    have hf : flat (e :: es) = e.cells ++ flat es := rfl
    rw [hf] at h
    by_cases hq : q < e.cells.length
    · rw [List.getElem?_append_left hq] at h
      exact ⟨0, q, e, rfl, h, by simp⟩
    · rw [List.getElem?_append_right (by omega)] at h
      obtain ⟨i, j, e', h1, h2, h3⟩ := ih (fun x hx => hm x (by simp [hx])) _ a h
      exact ⟨i + 1, j, e', by simpa using h1, h2, by rw [Nat.add_mul]; omega⟩

theorem run_loadCells_of {c o n : Nat} {vs : List Value} (hn : vs.length = n) (h : ∀ (q : Nat) (v : Value), vs[q]? = some v → w.cell? ⟨c, o + q, none⟩ = some v) :
    (loadCells ⟨c, o, none⟩ n).run P w = .ok vs.toArray w := by
  subst hn
  exact run_loadCells_list w ⟨c, o, none⟩ vs (fun j v hv => by rw [add_none]; exact h j v hv)

theorem cell_heap {w1 w : World} (h : w1.heap = w.heap) (a : Addr) : w1.cell? a = w.cell? a := by simp only [World.cell?, h]

/-- The cells of a source. -/
theorem cellsOf_sound (hS : Sim L R H w) {m n : Nat} {x : AV} {xv : Value} (hx : VR L R x xv) {l : List AV} (h : cellsOf H m n x = some l) :
    ∃ vs : List Value, (∀ w1 : World, w1.heap = w.heap → (Builtin.firstCells m n xv).run P w1 = .ok vs.toArray w1) ∧ VRs L R l vs ∧ (∀ a ∈ l, a.one = true) ∧ l.length = n * m := by
  unfold cellsOf at h
  split at h
  · split at h
    · rename_i hn; simp at h; subst h; subst hn
      rw [hx.nsl_inv]
      exact ⟨[], fun w1 _ => by simp [Builtin.firstCells], .nil _ _, by simp, by simp⟩
    · simp at h
  · rename_i nn m' es
    split at h
    · rename_i hb
      obtain ⟨rfl, hn⟩ := hb
      simp at h; subst h
      cases hx with
      | immNil _ =>
        simp at hn; subst hn
        exact ⟨[], fun w1 _ => by simp [Builtin.firstCells], by simpa [flat] using VRs.nil L R, by simp [flat], by simp [flat]⟩
      | imm _ _ _ c o cap f hm ho hr hv hc =>
        have hmem : ∀ e ∈ es.take n, e ∈ es := fun e he => List.mem_of_mem_take he
        have hget : ∀ (i : Nat) (e : AV), (es.take n)[i]? = some e → es[i]? = some e := by
          intro i e he
          rw [List.getElem?_take] at he
          split at he
          · exact he
          · simp at he
        have hlen : (flat (es.take n)).length = n * m' := by
          rw [flat_length _ (fun e he => hm e (hmem e he))]; simp; congr 1; omega
        obtain ⟨vs, h1, h2⟩ := exists_list (fun q v => w.cell? ⟨c, o + q, none⟩ = some v ∧ ∀ a, (flat (es.take n))[q]? = some a → VR L R a v) (n * m') (fun q hq => by
          obtain ⟨i, j, e, e1, e2, e3⟩ := flat_get (es.take n) (fun e he => hm e (hmem e he)) q _ (List.getElem?_eq_getElem (by rw [hlen]; exact hq))
          refine ⟨f i j, ?_, fun a ha => ?_⟩
          · have := hS.rom _ _ _ (hr i e j _ (hget i e e1) e2)
            rw [e3, ← Nat.add_assoc]; exact this
          · rw [List.getElem?_eq_getElem (by rw [hlen]; exact hq)] at ha
            cases ha
            exact hv i e j _ (hget i e e1) e2)
        refine ⟨vs, ?_, ⟨by rw [hlen, h1], fun q a v ha hv => (h2 q v hv).2 a ha⟩, ?_, hlen⟩
        · intro w1 hw1
          simp only [Builtin.firstCells]
          exact run_loadCells_of h1 (fun q v hv => by rw [cell_heap hw1]; exact (h2 q v hv).1)
        · intro a ha
          simp only [flat, List.mem_flatMap] at ha
          obtain ⟨e, he, ha⟩ := ha
          exact ho e (hmem e he) a ha
    · simp at h
  · rename_i b off len m' cap ex
    split at h
    · rename_i hb
      obtain ⟨rfl, hn⟩ := hb
      split at h
      · rename_i cs hcs
        simp only at h
        split at h
        · rename_i hlen
          simp at h; subst h
          cases hx with
          | ref _ _ _ _ _ _ c o sz cap' hL hl hc hex hroom =>
            have hB := hS.blk b _ hL
            rw [hcs] at hB
            obtain ⟨C, t', fr, hC, hsz, hlc, hfr, hone, hcells, hrep⟩ := hB
            have hone' : ∀ a ∈ (cs.drop off).take (n * m'), a.one = true := fun a ha => hone a (List.mem_of_mem_drop (List.mem_of_mem_take ha))
            obtain ⟨vs, h1, h2⟩ := exists_list (fun q v => w.cell? ⟨c, o + off + q, none⟩ = some v ∧ ∀ a, ((cs.drop off).take (n * m'))[q]? = some a → VR L R a v) (n * m') (fun q hq => by
              have hq2 : ((cs.drop off).take (n * m'))[q]? = cs[off + q]? := by
                rw [List.getElem?_take, if_pos hq, List.getElem?_drop]
              have hlt : off + q < cs.length := by simp at hlen; omega
              obtain ⟨v, e1, e2⟩ := hcells (off + q) _ (List.getElem?_eq_getElem hlt)
              refine ⟨v, by rw [cell_of hC, Nat.add_assoc]; exact e1, fun a ha => ?_⟩
              rw [hq2, List.getElem?_eq_getElem hlt] at ha
              cases ha; exact e2)
            refine ⟨vs, ?_, ⟨by rw [hlen, h1], fun q a v ha hv => (h2 q v hv).2 a ha⟩, hone', hlen⟩
            intro w1 hw1
            simp only [Builtin.firstCells]
            exact run_loadCells_of h1 (fun q v hv => by rw [cell_heap hw1]; exact (h2 q v hv).1)
        · simp at h
      · simp at h
    · simp at h
  · rename_i s
    split at h
    · rename_i hb
      obtain ⟨rfl, hn⟩ := hb
      simp at h; subst h
      rw [hx.str_inv]
      refine ⟨(s.take n).map (fun b => .int .u8 b.toNat), ?_, ⟨by simp, fun q a v ha hv => ?_⟩, ?_, by simp; omega⟩
      · intro w1 _
        simp only [Builtin.firstCells, Sem.run_pure]
        congr 1
        apply Array.toList_inj.1
        have : (ByteArray.extract ⟨s.toArray⟩ 0 n).data.toList = s.take n := by rw [Lib.extract_data]; simp
        rw [Array.toList_map, this]
      · rw [← List.map_take] at ha
        simp only [List.getElem?_map, Option.map_eq_some_iff] at ha hv
        obtain ⟨b, e1, rfl⟩ := ha
        obtain ⟨b', e2, rfl⟩ := hv
        rw [e1] at e2; cases e2
        exact .int _ _
      · intro a ha
        obtain ⟨b, _, rfl⟩ := List.mem_map.1 (List.mem_of_mem_take ha)
        rfl
    · simp at h
  · simp at h


/-- The length of a source of append and copy. -/
theorem lenOf_sound {x : AV} {xv : Value} (hx : VR L R x xv) {n m k : Nat} {l : List AV} (h : lenAV H x = some n) (hc : cellsOf H m k x = some l) : (Builtin.lenOf xv).run P w = .ok n w := by
  unfold cellsOf at hc
  split at hc
  · rw [hx.nsl_inv]; simp [lenAV] at h; subst h; simp [Builtin.lenOf]
  · simp [lenAV] at h; subst h
    cases hx with
    | immNil _ => simp [Builtin.lenOf]
    | imm _ _ _ c o cap f hm ho hr hv hc => simp [Builtin.lenOf]
  · simp [lenAV] at h; subst h
    cases hx with
    | ref _ _ _ _ _ _ c o sz cap' hL hl hc hex hroom => simp [Builtin.lenOf]
  · rw [hx.str_inv]; simp [lenAV] at h; subst h; simp [Builtin.lenOf, ByteArray.size]
  · simp at hc

end Go.Ab
