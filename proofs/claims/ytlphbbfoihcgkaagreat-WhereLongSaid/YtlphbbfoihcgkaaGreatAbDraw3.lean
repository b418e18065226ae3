/- Part of the proof over the seat YtlphbbfoihcgkaaGreat: AbDraw3. No conditions of its own. -/
import Derived.Test.YtlphbbfoihcgkaaGreatAbDraw2
import Derived.Test.YtlphbbfoihcgkaaGreatAbCode
namespace Go.Ab
variable {P : Program} {E : Env} {call : CallF} {ops : Array Oper}

/-! ### A block that nobody knows yet -/

theorem Sim.push_unm {L : Loc} {R : Rom} {H : Hp} {w : World} (h : Sim L R H w) (x : Blk) : Sim L R (H.push x) w := by
  have hg : ∀ b y, L b = some y → (H.push x).get b = H.get b := fun b y hb => by
    rw [Hp.get_push, if_neg]; rintro rfl; exact Nat.lt_irrefl _ (h.dom _ _ hb)
  refine ⟨fun b y hb => ?_, fun b y hb => ?_, fun b b' y y' h1 h2 d1 d2 e => ?_, h.rom, fun b y hb hd o => ?_⟩
  · have := h.dom b y hb; simp; omega
  · rw [hg b y hb]; exact h.blk b y hb
  · rw [hg b y h1] at d1; rw [hg b' y' h2] at d2
    exact h.inj b b' y y' h1 h2 d1 d2 e
  · rw [hg b y hb] at hd
    exact h.apart b y hb hd o

theorem Step.push_unm {L L0 : Loc} {R R0 : Rom} {H H0 : Hp} {w w0 : World} (h : Step L0 R0 H0 w0 L R H w) (x : Blk) : Step L0 R0 H0 w0 L R (H.push x) w := by
  refine ⟨h.fr.trans (.push H x), h.ext, h.rext, h.new, fun b hb e => ?_, h.conc, h.img, h.rnew, h.size, h.os, h.tape, h.output⟩
  rw [Hp.get_push, if_neg (by have := h.fr.n; omega)]
  exact h.unm b hb e

/-- A block of the abstract memory that is made now. -/
theorem map_new {L L0 : Loc} {R R0 : Rom} {H H0 : Hp} {w w0 w' : World} (hS : Sim L R H w) (hT : Step L0 R0 H0 w0 L R H w) {x : Blk} {b : Nat} (hLb : L b = none) (hb : H.get b = x) (hbn : b < H.n) (hb0 : H0.n ≤ b) {sz : Nat}
    (hsize : w.heap.size + 1 ≤ w'.heap.size) (hold : ∀ c, c < w.heap.size → w'.heap[c]? = w.heap[c]?) (hos : w'.os = w.os) (htape : w'.tape = w.tape) (hout : w'.output = w.output)
    (hx : BlkRel L R w' x (w.heap.size, 0, sz)) :
    ∃ L', Sim L' R H w' ∧ Step L0 R0 H0 w0 L' R H w' ∧ L' b = some (w.heap.size, 0, sz) ∧ (∀ c y, L c = some y → L' c = some y) ∧ ∀ c, c ≠ b → L' c = L c := by
  let L' : Loc := fun c => if c = b then some (w.heap.size, 0, sz) else L c
  have hext : ∀ c y, L c = some y → L' c = some y := fun c y h => by
    have : c ≠ b := by rintro rfl; rw [hLb] at h; cases h
    simp only [L', if_neg this, h]
  have hgo : ∀ c, c ≠ b → L' c = L c := fun c h => by simp only [L', if_neg h]
  have hgn : L' b = some (w.heap.size, 0, sz) := by simp [L']
  refine ⟨L', ⟨fun c y h => ?_, fun c y h => ?_, fun b1 b2 y1 y2 h1 h2 d1 d2 e => ?_, fun c o v h => ?_, fun c y h hd o => ?_⟩, ⟨hT.fr, fun c y h => hext c y (hT.ext c y h), hT.rext, fun c y h => ?_, fun c hc e => hT.unm c hc e, fun c hc hn => ?_, fun c y h => ?_, hT.rnew, by have := hT.size; omega, hos.trans hT.os, htape.trans hT.tape, hout.trans hT.output⟩, hgn, hext, hgo⟩
  · by_cases hcb : c = b
    · subst hcb; exact hbn
    · rw [hgo c hcb] at h; exact hS.dom c y h
  · by_cases hcb : c = b
    · subst hcb; rw [hgn] at h; cases h; rw [hb]
      exact hx.mono hext (fun _ _ _ h => h)
    · rw [hgo c hcb] at h
      by_cases hd : H.get c = .dead
      · rw [hd]; trivial
      · have hB := hS.blk c y h
        exact (hB.other (hold _ (hB.lt hd))).mono hext (fun _ _ _ h => h)
  · by_cases hb1 : b1 = b
    · by_cases hb2 : b2 = b
      · rw [hb1, hb2]
      · rw [hgo b2 hb2] at h2
        have := (hS.blk b2 y2 h2).lt d2
        subst hb1; rw [hgn] at h1; cases h1
        simp only at e; omega
    · rw [hgo b1 hb1] at h1
      by_cases hb2 : b2 = b
      · have := (hS.blk b1 y1 h1).lt d1
        subst hb2; rw [hgn] at h2; cases h2
        simp only at e; omega
      · rw [hgo b2 hb2] at h2
        exact hS.inj b1 b2 y1 y2 h1 h2 d1 d2 e
  · have := hS.rom c o v h
    have hlt : c < w.heap.size := by
      rcases Nat.lt_or_ge c w.heap.size with hl | hl
      · exact hl
      · rw [World.cell?] at this
        rw [Array.getElem?_eq_none hl] at this
        simp at this
    rw [cell_other (hold c hlt)]; exact this
  · by_cases hcb : c = b
    · subst hcb; rw [hgn] at h; cases h
      cases hr : R w.heap.size o with
      | none => rfl
      | some v =>
        have := hS.rom _ _ _ hr
        rw [World.cell?] at this
        rw [Array.getElem?_eq_none (Nat.le_refl _)] at this
        simp at this
    · rw [hgo c hcb] at h
      exact hS.apart c y h hd o
  · by_cases hcb : c = b
    · subst hcb; exact .inr hb0
    · rw [hgo c hcb] at h; exact hT.new c y h
  · rw [hold c (by have := hT.size; omega)]; exact hT.conc c hc hn
  · by_cases hcb : c = b
    · subst hcb; rw [hgn] at h; cases h
      exact .inr (.inl hT.size)
    · rw [hgo c hcb] at h; exact hT.img c y h

/-! ### Temporaries along the trace -/

theorem chain_old {T : List Ent} {env0 env' : Tr AV} {H0 H' : Hp} (hc : Chain E call ops T env0 H0 env' H') {t : Tmp} : ∀ p, p ≤ T.length → (∀ (q : Nat) (x : Ent), q < p → T[q]? = some x → x.o.dst ≠ some t) → (envAt T env' p).get t = env0.get t := by
  intro p
  induction p with
  | zero => intro _ _; rw [hc.env0]
  | succ p ih =>
    intro hp h
    have hx : T[p]? = some T[p] := by simp [show p < T.length by omega]
    rw [hc.envS p _ hx]
    have he : envAt T env' p = T[p].env := by simp [envAt, hx]
    rw [← ih (by omega) (fun q x hq e => h q x (by omega) e), he]
    have hd := h p _ (by omega) hx
    unfold putD
    split
    · rename_i d hd'
      rw [Tr.get_put, if_neg]
      rintro rfl; exact hd hd'
    · rfl

theorem chain_new {T : List Ent} {env0 env' : Tr AV} {H0 H' : Hp} (hc : Chain E call ops T env0 H0 env' H') {t : Tmp} {q : Nat} {x : Ent} (hq : T[q]? = some x) (hd : x.o.dst = some t) :
    ∀ p, p ≤ T.length → q < p → (∀ (r : Nat) (y : Ent), q < r → T[r]? = some y → y.o.dst ≠ some t) → (envAt T env' p).get t = some x.v := by
  intro p
  induction p with
  | zero => intro _ h; omega
  | succ p ih =>
    intro hp hqp h
    have hx : T[p]? = some T[p] := by simp [show p < T.length by omega]
    rw [hc.envS p _ hx]
    by_cases he : q = p
    · subst he
      rw [hq] at hx; cases hx
      simp [putD, hd, Tr.get_put]
    · have he' : envAt T env' p = T[p].env := by simp [envAt, hx]
      rw [← ih (by omega) (by omega) h, he']
      have hd' := h p _ (by omega) hx
      unfold putD
      split
      · rename_i d hdd
        rw [Tr.get_put, if_neg]
        rintro rfl; exact hd' hdd
      · rfl

end Go.Ab
