/- Part of the proof over the seat YtlphbbfoihcgkaaGreat: AbWrite. No conditions of its own. -/
import Derived.Test.YtlphbbfoihcgkaaGreatAbMake
namespace Go.Ab
variable {P : Program} {L : Loc} {R : Rom} {H H' : Hp} {w : World} {E : Env} {env : Tr AV} {ρ : Operand → Value} {o : Oper}

/-- What an operation leaves. -/
def Post (L : Loc) (R : Rom) (H : Hp) (w : World) (v : AV) (H' : Hp) (val : Value) (w' : World) : Prop :=
  ∃ L' R', Step L R H w L' R' H' w' ∧ Sim L' R' H' w' ∧ VR L' R' v val

theorem BlkRel.other {x : Blk} {p : Nat × Nat × Nat} {w' : World} (h : BlkRel L R w x p) (hw : w'.heap[p.1]? = w.heap[p.1]?) : BlkRel L R w' x p := by
  cases x with
  | dead => trivial
  | cells cs => obtain ⟨C, t, fr, h1, h2⟩ := h; exact ⟨C, t, fr, by rw [hw]; exact h1, h2⟩
  | map es => obtain ⟨M, k, h1, h2⟩ := h; exact ⟨M, k, by rw [hw]; exact h1, h2⟩

theorem BlkRel.mono {L' : Loc} {R' : Rom} {x : Blk} {p : Nat × Nat × Nat} (h : BlkRel L R w x p) (hL : ∀ b x, L b = some x → L' b = some x) (hR : ∀ c o v, R c o = some v → R' c o = some v) : BlkRel L' R' w x p := by
  cases x with
  | dead => trivial
  | cells cs =>
    obtain ⟨C, t, fr, h1, h2, h3, h4, h5, h6, h7⟩ := h
    exact ⟨C, t, fr, h1, h2, h3, h4, h5, fun j a ha => by obtain ⟨v, e1, e2⟩ := h6 j a ha; exact ⟨v, e1, e2.mono hL hR⟩, fun j v hv => by obtain ⟨a, e1, e2⟩ := h7 j v hv; exact ⟨a, e1, e2.mono hL hR⟩⟩
  | map es =>
    obtain ⟨M, k, h1, h2, h3⟩ := h
    exact ⟨M, k, h1, h2, fun i e x he hx => by obtain ⟨e1, e2, e3⟩ := h3 i e x he hx; exact ⟨e1.mono hL hR, e2.mono hL hR, e3⟩⟩

/-- A live block is there. -/
theorem BlkRel.lt {x : Blk} {p : Nat × Nat × Nat} (h : BlkRel L R w x p) (hx : x ≠ .dead) : p.1 < w.heap.size := by
  cases x with
  | dead => exact absurd rfl hx
  | cells cs => obtain ⟨C, t, fr, h1, _⟩ := h; exact lt_of_get h1
  | map es => obtain ⟨M, k, h1, _⟩ := h; exact lt_of_get h1

theorem cell_other {w w' : World} {c : Nat} (h : w'.heap[c]? = w.heap[c]?) (o : Nat) : w'.cell? ⟨c, o, none⟩ = w.cell? ⟨c, o, none⟩ := by
  simp only [World.cell?, h]

/-- One mapped block takes another content, abstract and concrete. -/
theorem put_sound (hS : Sim L R H w) {b c o sz : Nat} (hL : L b = some (c, o, sz)) (hl : H.get b ≠ .dead) {x : Blk} {y : Obj} (hx : BlkRel L R (setBlk w c y) x (c, o, sz)) :
    Sim L R (H.put b x) (setBlk w c y) ∧ Step L R H w L R (H.put b x) (setBlk w c y) := by
  have hc : c < w.heap.size := (hS.blk b _ hL).lt hl
  have hother : ∀ k, k ≠ c → (setBlk w c y).heap[k]? = w.heap[k]? := fun k hk => by rw [setBlk_get _ _ _ _ hc, if_neg hk]
  have hne : ∀ b' q, L b' = some q → H.get b' ≠ .dead → b' ≠ b → q.1 ≠ c := fun b' q hq hl' hb' e => hb' (hS.inj b' b q _ hq hL hl' hl e)
  refine ⟨⟨fun b' q hq => by simpa using hS.dom b' q hq, fun b' q hq => ?_, fun b1 b2 q1 q2 h1 h2 d1 d2 e => ?_, fun c' o' v hv => ?_, fun b' q hq hd o' => ?_⟩, ?_⟩
  · rw [Hp.get_put]
    by_cases hb : b' = b
    · subst hb; rw [if_pos rfl]; rw [hL] at hq; cases hq; exact hx
    · rw [if_neg hb]
      by_cases hd : H.get b' = .dead
      · rw [hd]; trivial
      · exact (hS.blk b' q hq).other (hother _ (hne b' q hq hd hb))
  · rw [Hp.get_put] at d1 d2
    have l1 : H.get b1 ≠ .dead := by by_cases hb : b1 = b <;> simp_all
    have l2 : H.get b2 ≠ .dead := by by_cases hb : b2 = b <;> simp_all
    exact hS.inj b1 b2 q1 q2 h1 h2 l1 l2 e
  · have hcc : c' ≠ c := by
      rintro rfl
      have := hS.apart b _ hL hl o'
      simp only at this
      rw [this] at hv; cases hv
    rw [cell_other (hother c' hcc)]
    exact hS.rom c' o' v hv
  · rw [Hp.get_put] at hd
    have l1 : H.get b' ≠ .dead := by by_cases hb : b' = b <;> simp_all
    exact hS.apart b' q hq l1 o'
  · refine ⟨.put H b x hl, fun _ _ h => h, fun _ _ _ h => h, fun _ _ h => .inl h, fun b' hb' hn => ?_, fun c' hc' hn => ?_, fun _ _ h => .inl h, fun _ _ _ h => .inl h, by rw [setBlk_size]; exact Nat.le_refl _, rfl, rfl, rfl⟩
    · rw [Hp.get_put, if_neg]
      rintro rfl; rw [hL] at hn; cases hn
    · exact hother c' (fun e => hn b _ hL hl e.symm)

theorem frOk {C : Array Value} {fr : Nat × Nat} (h : fr.1 = fr.2 ∨ C.size ≤ fr.1) : ∀ j, j < C.size → ¬ (fr.1 ≤ j ∧ j < fr.2) := by
  intro j hj; omega

theorem allU8_iff : ∀ {l : List AV}, allU8 l = true → ∀ a ∈ l, a.isU8 = true := by
  intro l
  induction l with
  | nil => intro _ a ha; cases ha
  | cons x l ih =>
    intro h a ha
    unfold allU8 at h
    split at h
    · rename_i hx
      rcases List.mem_cons.1 ha with rfl | ha
      · exact hx
      · exact ih h a ha
    · cases h

theorem u8ok_spec {cs new : List AV} (h : u8ok cs new = true) (hc : ∀ a ∈ cs, a.isU8 = true) : ∀ a ∈ new, a.isU8 = true := by
  unfold u8ok at h
  split at h
  · exact allU8_iff h
  · rename_i x _
    rw [hc x (by simp)] at h
    exact allU8_iff h

theorem overwrite_mem {cs new : List AV} {off : Nat} {p : AV → Prop} (h : ∀ a ∈ cs, p a) (k : ∀ a ∈ new, p a) : ∀ a ∈ overwrite cs off new, p a := by
  intro a ha
  unfold overwrite at ha
  rcases List.mem_append.1 ha with ha | ha
  · rcases List.mem_append.1 ha with ha | ha
    · exact h a (List.mem_of_mem_take ha)
    · exact k a ha
  · exact h a (List.mem_of_mem_drop ha)

/-- Cells of a mapped block are written. -/
theorem write_sound (P : Program) (hS : Sim L R H w) {b c o sz : Nat} (hL : L b = some (c, o, sz)) {cs : List AV} (hb : H.get b = .cells cs) {off : Nat} {new : List AV} {vals : List Value} (hv : VRs L R new vals)
    (hone : ∀ a ∈ new, a.one = true) (hfit : off + new.length ≤ cs.length) (hu : (∀ a ∈ cs, a.isU8 = true) → ∀ a ∈ new, a.isU8 = true) :
    ∃ w', (storeCells ⟨c, o + off, none⟩ vals).run P w = .ok () w' ∧ Sim L R (H.put b (.cells (overwrite cs off new))) w' ∧ Step L R H w L R (H.put b (.cells (overwrite cs off new))) w' := by
  have hB := hS.blk b _ hL
  rw [hb] at hB
  obtain ⟨C, t, fr, hC, hsz, hlen, hfr, hcone, hcells, hrep⟩ := hB
  simp only at hC hsz hlen hcells
  have hfit' : o + off + vals.length ≤ C.size := by rw [← hv.1]; omega
  refine ⟨_, run_storeCells P c (o + off) t fr vals 0 C w hC (frOk (hfr.imp_right And.left)) (by omega) (fun v hvm => ?_), ?_⟩
  · obtain ⟨i, hi, rfl⟩ := List.mem_iff_getElem.1 hvm
    have hi' : i < new.length := by rw [hv.1]; exact hi
    exact (hv.2 i new[i] vals[i] (by simp [hi']) (by simp [hi])).oneCell (hone _ (List.getElem_mem hi'))
  · have hc := lt_of_get hC
    refine put_sound hS hL (by rw [hb]; simp) ⟨lay C (o + off + 0) vals, t, fr, by rw [setBlk_get _ _ _ _ hc, if_pos rfl], ?_, ?_, ?_, overwrite_one hcone hone, fun j a ha => ?_, fun j v hjv => ?_⟩
    · rw [lay_size _ _ _ (by omega)]; exact hsz
    · rw [lay_size _ _ _ (by omega), overwrite_length hfit]; exact hlen
    · rw [lay_size _ _ _ (by omega)]; exact hfr.imp_right fun h => ⟨h.1, overwrite_mem h.2 (hu h.2)⟩
    · rw [overwrite_get hfit] at ha
      rw [lay_get _ _ _ (by omega)]
      by_cases hj : off ≤ j ∧ j < off + new.length
      · rw [if_pos hj] at ha
        obtain ⟨v, e1, e2⟩ := hv.get ha
        have := hv.1
        exact ⟨v, by rw [if_pos (by simp only; omega), ← e1]; congr 1; simp only; omega, e2⟩
      · rw [if_neg hj] at ha
        obtain ⟨v, e1, e2⟩ := hcells j a ha
        have := hv.1
        exact ⟨v, by rw [if_neg (by simp only; omega)]; exact e1, e2⟩
    · rw [lay_get _ _ _ (by omega)] at hjv
      split at hjv
      · exact hv.rep hone hjv
      · exact hrep j v hjv

/-- A new mapped block. -/
theorem new_sound (hS : Sim L R H w) {w' : World} {x : Blk} {sz : Nat} (hsize : w.heap.size + 1 ≤ w'.heap.size) (hold : ∀ c, c < w.heap.size → w'.heap[c]? = w.heap[c]?) (hos : w'.os = w.os) (htape : w'.tape = w.tape) (hout : w'.output = w.output)
    (hx : BlkRel L R w' x (w.heap.size, 0, sz)) :
    ∃ L', Sim L' R (H.push x) w' ∧ Step L R H w L' R (H.push x) w' ∧ L' H.n = some (w.heap.size, 0, sz) ∧ ∀ b y, L b = some y → L' b = some y := by
  let L' : Loc := fun b => if b = H.n then some (w.heap.size, 0, sz) else L b
  have hLn : L H.n = none := by
    cases h : L H.n with
    | none => rfl
    | some x => exact absurd (hS.dom _ _ h) (Nat.lt_irrefl _)
  have hext : ∀ b y, L b = some y → L' b = some y := fun b y h => by
    have : b ≠ H.n := by rintro rfl; rw [hLn] at h; cases h
    simp only [L', if_neg this, h]
  have hgo : ∀ b, b ≠ H.n → L' b = L b := fun b h => by simp only [L', if_neg h]
  have hgn : L' H.n = some (w.heap.size, 0, sz) := by simp [L']
  refine ⟨L', ⟨fun b y h => ?_, fun b y h => ?_, fun b1 b2 y1 y2 h1 h2 d1 d2 e => ?_, fun c o v h => ?_, fun b y h hd o => ?_⟩, ⟨.push H x, hext, fun _ _ _ h => h, fun b y h => ?_, fun b hb _ => ?_, fun c hc _ => hold c hc, fun b y h => ?_, fun _ _ _ h => .inl h, by omega, hos, htape, hout⟩, hgn, hext⟩
  · by_cases hb : b = H.n
    · subst hb; simp
    · rw [hgo b hb] at h; have := hS.dom b y h; simp; omega
  · rw [Hp.get_push]
    by_cases hb : b = H.n
    · subst hb; rw [if_pos rfl]; rw [hgn] at h; cases h
      exact hx.mono hext (fun _ _ _ h => h)
    · rw [if_neg hb]; rw [hgo b hb] at h
      by_cases hd : H.get b = .dead
      · rw [hd]; trivial
      · have hB := hS.blk b y h
        exact (hB.other (hold _ (hB.lt hd))).mono hext (fun _ _ _ h => h)
  · rw [Hp.get_push] at d1 d2
    by_cases hb1 : b1 = H.n
    · by_cases hb2 : b2 = H.n
      · rw [hb1, hb2]
      · rw [if_neg hb2] at d2
        rw [hgo b2 hb2] at h2
        have := (hS.blk b2 y2 h2).lt d2
        subst hb1; rw [hgn] at h1; cases h1
        simp only at e; omega
    · rw [if_neg hb1] at d1
      rw [hgo b1 hb1] at h1
      by_cases hb2 : b2 = H.n
      · have := (hS.blk b1 y1 h1).lt d1
        subst hb2; rw [hgn] at h2; cases h2
        simp only at e; omega
      · rw [if_neg hb2] at d2
        rw [hgo b2 hb2] at h2
        exact hS.inj b1 b2 y1 y2 h1 h2 d1 d2 e
  · have h0 := hS.rom c o v h
    have hc : c < w.heap.size := by
      simp only [World.cell?] at h0
      split at h0
      · rename_i hh; exact lt_of_get hh
      · cases h0
    rw [cell_other (hold c hc)]; exact h0
  · rw [Hp.get_push] at hd
    by_cases hb : b = H.n
    · subst hb; rw [hgn] at h; cases h
      cases hr : R w.heap.size o with
      | none => rfl
      | some v =>
        have h0 := hS.rom _ o v hr
        simp only [World.cell?] at h0
        split at h0
        · rename_i hh; exact absurd (lt_of_get hh) (Nat.lt_irrefl _)
        · cases h0
    · rw [if_neg hb] at hd
      rw [hgo b hb] at h
      exact hS.apart b y h hd o
  · by_cases hb : b = H.n
    · exact .inr (Nat.le_of_eq hb.symm)
    · rw [hgo b hb] at h; exact .inl h
  · rw [Hp.get_push, if_neg (by omega)]
  · by_cases hb : b = H.n
    · subst hb; rw [hgn] at h; cases h; exact .inr (.inl (Nat.le_refl _))
    · rw [hgo b hb] at h; exact .inl h

end Go.Ab
