/- Part of the proof over the seat YtlphbbfoihcgkaaGreat: AbAppend. No conditions of its own. -/
import Derived.Test.YtlphbbfoihcgkaaGreatAbWrite
namespace Go.Ab
variable {P : Program} {L : Loc} {R : Rom} {H H' : Hp} {w : World}

theorem growBy_le (n : Nat) : ∀ (k c : Nat), c ≤ 4 * n + 1024 → Builtin.growBy n k c ≤ 8 * n + 4096 := by
  intro k
  induction k with
  | zero => intro c h; simp [Builtin.growBy]; omega
  | succ k ih =>
    intro c h
    simp only [Builtin.growBy]
    split
    · omega
    · exact ih _ (by omega)

theorem nextslicecap_le {need cap : Nat} (h : cap < need) : Builtin.nextslicecap need cap ≤ 8 * need + 4096 := by
  unfold Builtin.nextslicecap
  split
  · omega
  · split
    · omega
    · exact growBy_le need 4 cap (by omega)

/-- The arm of append that has room. -/
theorem append_room {t0 t1 e : Nat} (hd : P.underlying t0 = some (.slice e)) {d1 : TypeDesc} (hd1 : P.underlying t1 = some d1) (hi1 : (∃ e', d1 = .slice e') ∨ d1 = .string) {ei : TI} (hei : TyRel P e ei)
    {base : Option Addr} {len cap n : Nat} {x : Value} (hlen : (Builtin.lenOf x).run P w = .ok n w) {vs : List Value} (hx : (Builtin.firstCells ei.sz n x).run P w = .ok vs.toArray w) (hroom : len + n ≤ cap)
    {w' : World} (hst : ∀ a, base = some a → (storeCells (a.add (len * ei.sz)) vs).run P w = .ok () w') (hnone : base = none → w' = w) (tys : Array TypeId) (h0 : tys[0]? = some t0) (h1 : tys[1]? = some t1) (ty : TypeId) :
    (Builtin.append_ tys ty #[.slice base len cap, x]).run P w = .ok (.slice base (len + n) cap) w' := by
  cases base with
  | none =>
    cases hnone rfl
    rcases hi1 with ⟨e', rfl⟩ | rfl <;>
      simp [Builtin.append_, h0, h1, run_und hd, run_und hd1, hei.run_size, hlen, hroom, hx]
  | some a =>
    have hs := hst a rfl
    rcases hi1 with ⟨e', rfl⟩ | rfl <;>
      simp [Builtin.append_, h0, h1, run_und hd, run_und hd1, hei.run_size, hlen, hroom, hx, hs]

theorem zeroCells_one (z : Array Value) (k : Nat) : (Builtin.zeroCells z k).size = k * z.size := by simp [Builtin.zeroCells]

theorem zeroCells_rep {z : Array Value} {zs : List AV} (h : VRs L R zs z.toList) (ho : ∀ a ∈ zs, a.one = true) {k j : Nat} {v : Value} (hv : (Builtin.zeroCells z k)[j]? = some v) : ∃ a, a.one = true ∧ VR L R a v := by
  unfold Builtin.zeroCells at hv
  rw [Array.getElem?_map] at hv
  obtain ⟨i, hi, rfl⟩ := Option.map_eq_some_iff.1 hv
  have hj : j < k * z.size := by
    rcases Nat.lt_or_ge j (k * z.size) with h | h
    · exact h
    · rw [Array.getElem?_eq_none (by simpa using h)] at hi; cases hi
  have hz : 0 < z.size := by
    rcases Nat.eq_zero_or_pos z.size with h | h
    · rw [h] at hj; omega
    · exact h
  have hm : i % z.size < z.size := Nat.mod_lt _ hz
  refine h.rep ho (j := i % z.size) ?_
  rw [Array.getElem?_toList, Array.getElem?_eq_getElem hm, getElem!_pos z _ hm]

/-- The arm of append that makes a new row. -/
theorem append_grow {t0 t1 e : Nat} (hd : P.underlying t0 = some (.slice e)) {d1 : TypeDesc} (hd1 : P.underlying t1 = some d1) (hi1 : (∃ e', d1 = .slice e') ∨ d1 = .string) {ei : TI} (hei : TyRel P e ei)
    (hzl : ei.zero.length = ei.sz)
    {base : Option Addr} {len cap n : Nat} {x : Value} (hlen : (Builtin.lenOf x).run P w = .ok n w) (hroom : ¬ len + n ≤ cap) (hb1 : len + n < 2 ^ 48) (hb2 : Builtin.nextslicecap (len + n) cap * ei.bytes ≤ 2 ^ 48)
    {us vs : List Value} (hx : ∀ w1, w1.heap = w.heap → (Builtin.firstCells ei.sz n x).run P w1 = .ok vs.toArray w1)
    (hs : ∀ w1, w1.heap = w.heap → (Builtin.firstCells ei.sz len (.slice base len cap)).run P w1 = .ok us.toArray w1)
    (tys : Array TypeId) (h0 : tys[0]? = some t0) (h1 : tys[1]? = some t1) (ty : TypeId) :
    ∃ cap' rest, len + n ≤ cap' ∧ rest.size = (cap' - (len + n)) * ei.sz ∧ (∀ (j : Nat) (v : Value), rest[j]? = some v → ∃ a, a.one = true ∧ VR L R a v) ∧ (Builtin.append_ tys ty #[.slice base len cap, x]).run P w = .ok (.slice (some ⟨w.heap.size, 0, none⟩) (len + n) cap') (w.drew.alloc (.cells (us.toArray ++ vs.toArray ++ rest) e)) := by
  obtain ⟨i, hi, his, hib, z, hz, hzc, _⟩ := hei.info
  have hzs : z.cells.size = ei.sz := by
    have := (VRs.ofCells (L := fun _ => none) (R := fun _ _ => none) hzc).1.1
    simp at this; omega
  let w1 : World := w.drew
  obtain ⟨cap', hcap, hcut⟩ : ∃ cap', len + n ≤ cap' ∧ (Question.appendCap (len + n) cap e).cut (w.tape w.drawn (.appendCap (len + n) cap e)) = cap' := by
    refine ⟨_, ?_, rfl⟩
    simp only [Question.cut]
    omega
  refine ⟨cap', Builtin.zeroCells z.cells (cap' - (len + n)), hcap, by rw [zeroCells_one, hzs], fun j v hj => ?_, ?_⟩
  · obtain ⟨q1, q2⟩ := VRs.ofCells (L := L) (R := R) hzc
    exact zeroCells_rep q1 q2 hj
  have hn1 : ¬ (9223372036854775807 < (len : Int) + (n : Int) ∧ i.bytes = 0) := by
    rintro ⟨h, _⟩; omega
  have hn2 : ¬ (Builtin.nextslicecap (len + n) cap * i.bytes > 2 ^ 48) := by rw [hib]; omega
  have hzr : ∀ w, (zeroValue e).run P w = .ok z w := fun w => by simp [zeroValue, typeInfo, hi, hz]
  have hfin : ∀ (d1 : TypeDesc), ((∃ e', d1 = .slice e') ∨ d1 = .string) → P.underlying t1 = some d1 → (Builtin.append_ tys ty #[.slice base len cap, x]).run P w = .ok (.slice (some ⟨w.heap.size, 0, none⟩) (len + n) cap') (w1.alloc (.cells (us.toArray ++ vs.toArray ++ Builtin.zeroCells z.cells (cap' - (len + n))) e)) := by
    intro d1 hi1 hd1
    rcases hi1 with ⟨e', rfl⟩ | rfl
    · simp [Builtin.append_, h0, h1, run_und hd, run_und hd1, hei.run_size, hlen, hroom, typeInfo, hi, hn2]
      rw [if_neg hn1]
      simp [Question.forced, hs w.drew rfl, hx w.drew rfl, hzr, hcut, newRow, w1]
      rw [← List.append_toArray, Array.append_assoc]
    · simp [Builtin.append_, h0, h1, run_und hd, run_und hd1, hei.run_size, hlen, hroom, typeInfo, hi, hn2]
      rw [if_neg hn1]
      simp [Question.forced, hs w.drew rfl, hx w.drew rfl, hzr, hcut, newRow, w1]
      rw [← List.append_toArray, Array.append_assoc]
  exact hfin d1 hi1 hd1


/-! ### Append -/

theorem sim_heap {w1 : World} (hS : Sim L R H w) (h : w1.heap = w.heap) : Sim L R H w1 := by
  have hc : ∀ a, w1.cell? a = w.cell? a := fun a => by simp only [World.cell?, h]
  refine ⟨hS.dom, fun b x hb => (hS.blk b x hb).other (by rw [h]), hS.inj, fun c o v hv => by rw [hc]; exact hS.rom c o v hv, hS.apart⟩

/-- An append that takes the place of the block it was given: the elder block is not asked any more. -/
theorem extend_sound (P : Program) (hS : Sim L R H w) {b c o sz : Nat} (hL : L b = some (c, o, sz)) {cs : List AV} (hb : H.get b = .cells cs) {off : Nat} (hoff : off ≤ cs.length) {new : List AV} {vals : List Value} (hv : VRs L R new vals)
    (hone : ∀ a ∈ new, a.one = true) (hfit : o + cs.length + new.length ≤ sz) (hu : u8ok cs new = true) :
    ∃ w' L', (storeCells ⟨c, o + cs.length, none⟩ vals).run P w = .ok () w' ∧ Sim L' R ((H.put b .dead).push (.cells (cs.drop off ++ new))) w' ∧ Step L R H w L' R ((H.put b .dead).push (.cells (cs.drop off ++ new))) w' ∧ L' H.n = some (c, o + off, sz) := by
  have hB := hS.blk b _ hL
  rw [hb] at hB
  obtain ⟨C, t, fr, hC, hsz, hlen, hfr, hcone, hcells, hrep⟩ := hB
  simp only at hC hsz hlen hcells
  have hvl := hv.1
  have hfit' : o + cs.length + vals.length ≤ C.size := by omega
  have hc := lt_of_get hC
  have hvone : ∀ v ∈ vals, v.oneCell' = true := fun v hvm => by
    obtain ⟨i, hi, rfl⟩ := List.mem_iff_getElem.1 hvm
    have hi' : i < new.length := by rw [hvl]; exact hi
    exact (hv.2 i new[i] vals[i] (by simp [hi']) (by simp [hi])).oneCell (hone _ (List.getElem_mem hi'))
  let L' : Loc := fun k => if k = H.n then some (c, o + off, sz) else L k
  have hLn : L H.n = none := by
    cases h : L H.n with
    | none => rfl
    | some x => exact absurd (hS.dom _ _ h) (Nat.lt_irrefl _)
  have hext : ∀ b y, L b = some y → L' b = some y := fun b y h => by
    have : b ≠ H.n := by rintro rfl; rw [hLn] at h; cases h
    simp only [L', if_neg this, h]
  have hgo : ∀ b, b ≠ H.n → L' b = L b := fun b h => by simp only [L', if_neg h]
  have hgn : L' H.n = some (c, o + off, sz) := by simp [L']
  have hbn : b < H.n := hS.dom b _ hL
  let y : Obj := .cells (lay C (o + cs.length + 0) vals) t fr
  have hother : ∀ k, k ≠ c → (setBlk w c y).heap[k]? = w.heap[k]? := fun k hk => by rw [setBlk_get _ _ _ _ hc, if_neg hk]
  have hne : ∀ b' q, L b' = some q → H.get b' ≠ .dead → b' ≠ b → q.1 ≠ c := fun b' q hq hl' hb' e => hb' (hS.inj b' b q _ hq hL hl' (by rw [hb]; simp) e)
  have hget : ∀ k, ((H.put b .dead).push (.cells (cs.drop off ++ new))).get k = if k = H.n then .cells (cs.drop off ++ new) else if k = b then .dead else H.get k := by
    intro k; rw [Hp.get_push, Hp.get_put]; rfl
  refine ⟨setBlk w c y, L', run_storeCells P c (o + cs.length) t fr vals 0 C w hC (frOk (hfr.imp_right And.left)) (by omega) hvone, ⟨fun b' q hq => ?_, fun b' q hq => ?_, fun b1 b2 q1 q2 h1 h2 d1 d2 e => ?_, fun c' o' v hv' => ?_, fun b' q hq hd o' => ?_⟩, ?_, hgn⟩
  · by_cases hk : b' = H.n
    · subst hk; simp
    · rw [hgo b' hk] at hq; have := hS.dom b' q hq; simp; omega
  · rw [hget]
    by_cases hk : b' = H.n
    · subst hk; rw [if_pos rfl]; rw [hgn] at hq; cases hq
      refine ⟨lay C (o + cs.length + 0) vals, t, fr, by rw [setBlk_get _ _ _ _ hc, if_pos rfl], ?_, ?_, ?_, ?_, fun j a ha => ?_, fun j v hjv => ?_⟩
      · rw [lay_size _ _ _ (by omega)]; exact hsz
      · rw [lay_size _ _ _ (by omega)]; simp; omega
      · rw [lay_size _ _ _ (by omega)]
        exact hfr.imp_right fun h => ⟨h.1, fun a ha => by
          rcases List.mem_append.1 ha with ha | ha
          · exact h.2 a (List.mem_of_mem_drop ha)
          · exact u8ok_spec hu h.2 a ha⟩
      · intro a ha
        rcases List.mem_append.1 ha with ha | ha
        · exact hcone a (List.mem_of_mem_drop ha)
        · exact hone a ha
      · rw [lay_get _ _ _ (by omega)]
        by_cases hj : j < (cs.drop off).length
        · rw [List.getElem?_append_left hj, List.getElem?_drop] at ha
          obtain ⟨v, e1, e2⟩ := hcells _ a ha
          simp at hj
          exact ⟨v, by rw [if_neg (by simp only; omega), ← e1]; congr 1; simp only; omega, e2.mono hext (fun _ _ _ h => h)⟩
        · rw [List.getElem?_append_right (by omega)] at ha
          obtain ⟨v, e1, e2⟩ := hv.get ha
          have hlt := (List.getElem?_eq_some_iff.1 ha).1
          simp at hj hlt e1
          exact ⟨v, by rw [if_pos (by simp only; omega), ← e1]; congr 1; simp only; omega, e2.mono hext (fun _ _ _ h => h)⟩
      · have : ∃ a, a.one = true ∧ VR L R a v := by
          rw [lay_get _ _ _ (by omega)] at hjv
          split at hjv
          · exact hv.rep hone hjv
          · exact hrep j v hjv
        obtain ⟨a, e1, e2⟩ := this
        exact ⟨a, e1, e2.mono hext (fun _ _ _ h => h)⟩
    · rw [if_neg hk]; rw [hgo b' hk] at hq
      by_cases hk2 : b' = b
      · rw [if_pos hk2]; trivial
      · rw [if_neg hk2]
        by_cases hd : H.get b' = .dead
        · rw [hd]; trivial
        · exact ((hS.blk b' q hq).other (hother _ (hne b' q hq hd hk2))).mono hext (fun _ _ _ h => h)
  · rw [hget] at d1 d2
    by_cases k1 : b1 = H.n
    · by_cases k2 : b2 = H.n
      · rw [k1, k2]
      · rw [if_neg k2] at d2
        by_cases k3 : b2 = b
        · rw [if_pos k3] at d2; exact absurd rfl d2
        · rw [if_neg k3] at d2
          rw [hgo b2 k2] at h2
          subst k1; rw [hgn] at h1; cases h1
          exact absurd e.symm (hne b2 q2 h2 d2 k3)
    · rw [if_neg k1] at d1
      by_cases k3 : b1 = b
      · rw [if_pos k3] at d1; exact absurd rfl d1
      · rw [if_neg k3] at d1
        rw [hgo b1 k1] at h1
        by_cases k2 : b2 = H.n
        · subst k2; rw [hgn] at h2; cases h2
          exact absurd e (hne b1 q1 h1 d1 k3)
        · rw [if_neg k2] at d2
          by_cases k4 : b2 = b
          · rw [if_pos k4] at d2; exact absurd rfl d2
          · rw [if_neg k4] at d2
            rw [hgo b2 k2] at h2
            exact hS.inj b1 b2 q1 q2 h1 h2 d1 d2 e
  · have hcc : c' ≠ c := by
      rintro rfl
      have := hS.apart b _ hL (by rw [hb]; simp) o'
      simp only at this
      rw [this] at hv'; cases hv'
    rw [cell_other (hother c' hcc)]
    exact hS.rom c' o' v hv'
  · rw [hget] at hd
    by_cases hk : b' = H.n
    · subst hk; rw [hgn] at hq; cases hq
      exact hS.apart b _ hL (by rw [hb]; simp) o'
    · rw [if_neg hk] at hd
      by_cases hk2 : b' = b
      · rw [if_pos hk2] at hd; exact absurd rfl hd
      · rw [if_neg hk2] at hd
        rw [hgo b' hk] at hq
        exact hS.apart b' q hq hd o'
  · refine ⟨(Fr.put H b .dead (by rw [hb]; simp)).trans (.push _ _), hext, fun _ _ _ h => h, fun b' q hq => ?_, fun b' hb' hn => ?_, fun c' hc' hn => ?_, fun b' q hq => ?_, fun _ _ _ h => .inl h, by rw [setBlk_size]; exact Nat.le_refl _, rfl, rfl, rfl⟩
    · by_cases hk : b' = H.n
      · exact .inr (Nat.le_of_eq hk.symm)
      · rw [hgo b' hk] at hq; exact .inl hq
    · rw [hget, if_neg (by omega), if_neg]
      rintro rfl; rw [hL] at hn; cases hn
    · exact hother c' (fun e => hn b _ hL (by rw [hb]; simp) e.symm)
    · by_cases hk : b' = H.n
      · subst hk; rw [hgn] at hq; cases hq
        exact .inr (.inr ⟨b, _, hL, by rw [hb]; simp, rfl⟩)
      · rw [hgo b' hk] at hq; exact .inl hq

end Go.Ab
