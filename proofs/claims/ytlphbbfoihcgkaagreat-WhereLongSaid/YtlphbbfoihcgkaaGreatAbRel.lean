/- Part of the proof over the seat YtlphbbfoihcgkaaGreat: AbRel. No conditions of its own. -/
import Derived.Test.YtlphbbfoihcgkaaGreatAbCore
import Derived.Below
namespace Go.Ab

/-! ### The trie -/

theorem Tr.get_leaf {α : Type} (n : Nat) : (Tr.leaf : Tr α).get n = none := rfl

theorem Tr.get_set {α : Type} (x : α) : ∀ (f : Nat) (t : Tr α) (n m : Nat), n + 1 < 2 ^ f → (Tr.set x f t n).get m = if m = n then some x else t.get m := by
  intro f
  induction f with
  | zero => intro t n m h; simp at h
  | succ f ih =>
    intro t n m h
    have hp : 2 ^ (f + 1) = 2 * 2 ^ f := by rw [Nat.pow_succ]; omega
    cases t with
    | leaf =>
      cases n with
      | zero =>
        cases m with
        | zero => simp [Tr.set, Tr.get]
        | succ j => simp only [Tr.set, Tr.get]; split <;> simp
      | succ k =>
        have hk : k / 2 + 1 < 2 ^ f := by omega
        rcases Nat.mod_two_eq_zero_or_one k with e | e
        · simp only [Tr.set, e]
          cases m with
          | zero => simp [Tr.get]
          | succ j =>
            simp only [Tr.get]
            rcases Nat.mod_two_eq_zero_or_one j with e' | e'
            · simp only [e', ih _ _ _ hk, Tr.get_leaf]
              by_cases hj : j = k
              · subst hj; simp
              · have : j / 2 ≠ k / 2 := by omega
                simp [this, hj]
            · simp only [e']
              have : j ≠ k := by rintro rfl; omega
              simp [this]
        · simp only [Tr.set, e]
          cases m with
          | zero => simp [Tr.get]
          | succ j =>
            simp only [Tr.get]
            rcases Nat.mod_two_eq_zero_or_one j with e' | e'
            · simp only [e']
              have : j ≠ k := by rintro rfl; omega
              simp [this]
            · simp only [e', ih _ _ _ hk, Tr.get_leaf]
              by_cases hj : j = k
              · subst hj; simp
              · have : j / 2 ≠ k / 2 := by omega
                simp [this, hj]
    | node l v r =>
      cases n with
      | zero =>
        cases m with
        | zero => simp [Tr.set, Tr.get]
        | succ j => simp [Tr.set, Tr.get]
      | succ k =>
        have hk : k / 2 + 1 < 2 ^ f := by omega
        rcases Nat.mod_two_eq_zero_or_one k with e | e
        · simp only [Tr.set, e]
          cases m with
          | zero => simp [Tr.get]
          | succ j =>
            simp only [Tr.get]
            rcases Nat.mod_two_eq_zero_or_one j with e' | e'
            · simp only [e', ih _ _ _ hk]
              by_cases hj : j = k
              · subst hj; simp
              · have : j / 2 ≠ k / 2 := by omega
                simp [this, hj]
            · simp only [e']
              have : j ≠ k := by rintro rfl; omega
              simp [this]
        · simp only [Tr.set, e]
          cases m with
          | zero => simp [Tr.get]
          | succ j =>
            simp only [Tr.get]
            rcases Nat.mod_two_eq_zero_or_one j with e' | e'
            · simp only [e']
              have : j ≠ k := by rintro rfl; omega
              simp [this]
            · simp only [e', ih _ _ _ hk]
              by_cases hj : j = k
              · subst hj; simp
              · have : j / 2 ≠ k / 2 := by omega
                simp [this, hj]

theorem Tr.get_put {α : Type} (x : α) (t : Tr α) (n m : Nat) : (t.put n x).get m = if m = n then some x else t.get m := by
  refine Tr.get_set x _ t n m ?_
  have h := @Nat.lt_log2_self n
  have hp : 2 ^ (n.log2 + 2) = 2 * 2 ^ (n.log2 + 1) := by rw [Nat.pow_succ]; omega
  have h1 : 1 ≤ 2 ^ (n.log2 + 1) := Nat.one_le_two_pow
  omega

/-! ### The memory -/

theorem Hp.get_push (H : Hp) (x : Blk) (b : Nat) : (H.push x).get b = if b = H.n then x else H.get b := by
  by_cases h : b = H.n <;> simp [Hp.push, Hp.get, Tr.get_put, h]
theorem Hp.get_put (H : Hp) (c : Nat) (x : Blk) (b : Nat) : (H.put c x).get b = if b = c then x else H.get b := by
  by_cases h : b = c <;> simp [Hp.put, Hp.get, Tr.get_put, h]
theorem Hp.ts_push (H : Hp) (x : Blk) (b : Nat) : (H.push x).ts b = if b = H.n then H.clk else H.ts b := by
  by_cases h : b = H.n <;> simp [Hp.push, Hp.ts, Tr.get_put, h]
theorem Hp.ts_put (H : Hp) (c : Nat) (x : Blk) (b : Nat) : (H.put c x).ts b = if b = c then H.clk else H.ts b := by
  by_cases h : b = c <;> simp [Hp.put, Hp.ts, Tr.get_put, h]
@[simp] theorem Hp.n_push (H : Hp) (x : Blk) : (H.push x).n = H.n + 1 := rfl
@[simp] theorem Hp.n_put (H : Hp) (c : Nat) (x : Blk) : (H.put c x).n = H.n := rfl
@[simp] theorem Hp.clk_push (H : Hp) (x : Blk) : (H.push x).clk = H.clk + 1 := rfl
@[simp] theorem Hp.clk_put (H : Hp) (c : Nat) (x : Blk) : (H.put c x).clk = H.clk + 1 := rfl

/-- What a run does to the abstract memory: blocks come; the dead stay dead; a block that was not written holds what it held. -/
structure Fr (H H' : Hp) : Prop where
  n : H.n ≤ H'.n
  clk : H.clk ≤ H'.clk
  dead : ∀ b, b < H.n → H.get b = .dead → H'.get b = .dead
  same : ∀ b, b < H.n → H'.ts b < H.clk → H'.get b = H.get b ∧ H'.ts b = H.ts b

theorem Fr.refl (H : Hp) : Fr H H := ⟨Nat.le_refl _, Nat.le_refl _, fun _ _ h => h, fun _ _ _ => ⟨rfl, rfl⟩⟩

theorem Fr.trans {A B C : Hp} (h : Fr A B) (k : Fr B C) : Fr A C := by
  refine ⟨Nat.le_trans h.n k.n, Nat.le_trans h.clk k.clk, fun b hb hd => k.dead b (Nat.lt_of_lt_of_le hb h.n) (h.dead b hb hd), fun b hb ht => ?_⟩
  obtain ⟨g1, t1⟩ := k.same b (Nat.lt_of_lt_of_le hb h.n) (Nat.lt_of_lt_of_le ht h.clk)
  obtain ⟨g2, t2⟩ := h.same b hb (by rw [← t1]; exact ht)
  exact ⟨g1.trans g2, t1.trans t2⟩

theorem Fr.push (H : Hp) (x : Blk) : Fr H (H.push x) := by
  refine ⟨by simp, by simp, fun b hb hd => ?_, fun b hb _ => ?_⟩
  · rw [Hp.get_push, if_neg (by omega)]; exact hd
  · rw [Hp.get_push, Hp.ts_push, if_neg (by omega), if_neg (by omega)]; exact ⟨rfl, rfl⟩

theorem Fr.put (H : Hp) (c : Nat) (x : Blk) (hl : H.get c ≠ .dead) : Fr H (H.put c x) := by
  refine ⟨by simp, by simp, fun b hb hd => ?_, fun b hb ht => ?_⟩
  · rw [Hp.get_put]
    split
    · subst_vars; exact absurd hd hl
    · exact hd
  · rw [Hp.ts_put] at ht
    rw [Hp.get_put, Hp.ts_put]
    split at ht
    · omega
    · rename_i hne; rw [if_neg hne, if_neg hne]; exact ⟨rfl, rfl⟩

/-! ### Values -/

/-- Where an abstract block lies: block, offset, cells of the block. -/
abbrev Loc := Nat → Option (Nat × Nat × Nat)
/-- What is known to stay: cells of immutable rows. -/
abbrev Rom := Nat → Nat → Option Value

def plainNil : Value → Bool
  | .pointer none | .map none | .chan none | .nilFunc | .nilIface => true
  | _ => false

inductive VR (L : Loc) (R : Rom) : AV → Value → Prop where
  | undef (v : Value) : VR L R .undef v
  | int (k : IntKind) (n : Int) : VR L R (.int k n) (.int k n)
  | bool (b : Bool) : VR L R (.bool b) (.bool b)
  | str (s : List UInt8) : VR L R (.str s) (.string ⟨s.toArray⟩)
  | nil (v : Value) (h : plainNil v = true) : VR L R (.nil v) v
  | nsl : VR L R .nsl (.slice none 0 0)
  | immNil (m : Nat) : VR L R (.imm false m []) (.slice none 0 0)
  | imm (nn : Bool) (m : Nat) (es : List AV) (c o cap : Nat) (f : Nat → Nat → Value)
      (hm : ∀ e ∈ es, e.cells.length = m) (ho : ∀ e ∈ es, ∀ a ∈ e.cells, a.one = true)
      (hr : ∀ (i : Nat) (e : AV) (j : Nat) (a : AV), es[i]? = some e → e.cells[j]? = some a → R c (o + i * m + j) = some (f i j))
      (hv : ∀ (i : Nat) (e : AV) (j : Nat) (a : AV), es[i]? = some e → e.cells[j]? = some a → VR L R a (f i j))
      (hc : es.length ≤ cap) : VR L R (.imm nn m es) (.slice (some ⟨c, o, none⟩) es.length cap)
  | ref (b off len m cap : Nat) (ex : Bool) (c o sz cap' : Nat) (hb : L b = some (c, o, sz)) (hl : len ≤ cap') (hc : cap ≤ cap')
      (hx : ex = true → cap' = cap) (hs : o + off + cap' * m ≤ sz) : VR L R (.ref b off len m cap ex) (.slice (some ⟨c, o + off, none⟩) len cap')
  | ptr (b off : Nat) (c o sz : Nat) (hb : L b = some (c, o, sz)) : VR L R (.ptr b off) (.pointer (some ⟨c, o + off, none⟩))
  | iptr (m : Nat) (es : List AV) (i off : Nat) (c o : Nat) (f : Nat → Nat → Value)
      (hm : ∀ e ∈ es, e.cells.length = m) (ho : ∀ e ∈ es, ∀ a ∈ e.cells, a.one = true)
      (hr : ∀ (i : Nat) (e : AV) (j : Nat) (a : AV), es[i]? = some e → e.cells[j]? = some a → R c (o + i * m + j) = some (f i j))
      (hv : ∀ (i : Nat) (e : AV) (j : Nat) (a : AV), es[i]? = some e → e.cells[j]? = some a → VR L R a (f i j)) :
      VR L R (.iptr m es i off) (.pointer (some ⟨c, o + i * m + off, none⟩))
  | map (b : Nat) (c o sz : Nat) (hb : L b = some (c, o, sz)) : VR L R (.map b) (.map (some c))
  | fn (f : Nat) (caps : List AV) (vs : Array Value) (hl : caps.length = vs.size)
      (hv : ∀ (i : Nat) (a : AV) (v : Value), caps[i]? = some a → vs[i]? = some v → VR L R a v) : VR L R (.fn f caps) (.func (.func f) #[] vs)
  | agg (cs : List AV) (vs : Array Value) (hl : cs.length = vs.size) (ho : ∀ a ∈ cs, a.one = true)
      (hv : ∀ (i : Nat) (a : AV) (v : Value), cs[i]? = some a → vs[i]? = some v → VR L R a v) : VR L R (.agg cs) (.agg vs)
  | tup (cs : List AV) (vs : Array Value) (hl : cs.length = vs.size)
      (hv : ∀ (i : Nat) (a : AV) (v : Value), cs[i]? = some a → vs[i]? = some v → VR L R a v) : VR L R (.tup cs) (.tuple vs)

theorem VR.mono {L L' : Loc} {R R' : Rom} (hL : ∀ b x, L b = some x → L' b = some x) (hR : ∀ c o v, R c o = some v → R' c o = some v) {a : AV} {v : Value}
    (h : VR L R a v) : VR L' R' a v := by
  induction h with
  | undef v => exact .undef v
  | int k n => exact .int k n
  | bool b => exact .bool b
  | str s => exact .str s
  | nil v h => exact .nil v h
  | nsl => exact .nsl
  | immNil m => exact .immNil m
  | imm nn m es c o cap f hm ho hr hv hc ih => exact .imm nn m es c o cap f hm ho (fun i e j a h1 h2 => hR _ _ _ (hr i e j a h1 h2)) ih hc
  | ref b off len m cap ex c o sz cap' hb hl hc hx hs => exact .ref b off len m cap ex c o sz cap' (hL _ _ hb) hl hc hx hs
  | ptr b off c o sz hb => exact .ptr b off c o sz (hL _ _ hb)
  | iptr m es i off c o f hm ho hr hv ih => exact .iptr m es i off c o f hm ho (fun i e j a h1 h2 => hR _ _ _ (hr i e j a h1 h2)) ih
  | map b c o sz hb => exact .map b c o sz (hL _ _ hb)
  | fn f caps vs hl hv ih => exact .fn f caps vs hl ih
  | agg cs vs hl ho hv ih => exact .agg cs vs hl ho ih
  | tup cs vs hl hv ih => exact .tup cs vs hl ih

/-- A list of values. -/
def VRs (L : Loc) (R : Rom) (as : List AV) (vs : List Value) : Prop := as.length = vs.length ∧ ∀ (i : Nat) (a : AV) (v : Value), as[i]? = some a → vs[i]? = some v → VR L R a v

theorem VRs.mono {L L' : Loc} {R R' : Rom} (hL : ∀ b x, L b = some x → L' b = some x) (hR : ∀ c o v, R c o = some v → R' c o = some v) {a : List AV} {v : List Value}
    (h : VRs L R a v) : VRs L' R' a v := ⟨h.1, fun i a v h1 h2 => (h.2 i a v h1 h2).mono hL hR⟩

theorem VRs.nil (L : Loc) (R : Rom) : VRs L R [] [] := ⟨rfl, by simp⟩
theorem VRs.cons {L : Loc} {R : Rom} {a : AV} {v : Value} {as : List AV} {vs : List Value} (h : VR L R a v) (hs : VRs L R as vs) : VRs L R (a :: as) (v :: vs) := by
  refine ⟨by simp [hs.1], fun i x y hx hy => ?_⟩
  cases i with
  | zero => simp at hx hy; subst hx hy; exact h
  | succ i => exact hs.2 i x y (by simpa using hx) (by simpa using hy)
theorem VRs.head {L : Loc} {R : Rom} {a : AV} {v : Value} {as : List AV} {vs : List Value} (h : VRs L R (a :: as) (v :: vs)) : VR L R a v := h.2 0 a v rfl rfl
theorem VRs.tail {L : Loc} {R : Rom} {a : AV} {v : Value} {as : List AV} {vs : List Value} (h : VRs L R (a :: as) (v :: vs)) : VRs L R as vs :=
  ⟨by simpa using h.1, fun i x y hx hy => h.2 (i + 1) x y (by simpa using hx) (by simpa using hy)⟩
theorem VRs.inv_nil {L : Loc} {R : Rom} {vs : List Value} (h : VRs L R [] vs) : vs = [] := List.length_eq_zero_iff.1 h.1.symm
theorem VRs.inv_cons {L : Loc} {R : Rom} {a : AV} {as : List AV} {vs : List Value} (h : VRs L R (a :: as) vs) : ∃ v vs', vs = v :: vs' ∧ VR L R a v ∧ VRs L R as vs' := by
  cases vs with
  | nil => exact absurd h.1 (by simp)
  | cons v vs' => exact ⟨v, vs', rfl, h.head, h.tail⟩
theorem VRs.append {L : Loc} {R : Rom} {a b : List AV} {v w : List Value} (h : VRs L R a v) (k : VRs L R b w) : VRs L R (a ++ b) (v ++ w) := by
  refine ⟨by simp [h.1, k.1], fun i x y hx hy => ?_⟩
  by_cases hi : i < a.length
  · rw [List.getElem?_append_left hi] at hx
    rw [List.getElem?_append_left (h.1 ▸ hi)] at hy
    exact h.2 i x y hx hy
  · rw [List.getElem?_append_right (by omega)] at hx
    rw [List.getElem?_append_right (by have := h.1; omega), ← h.1] at hy
    exact k.2 _ x y hx hy
theorem VRs.take {L : Loc} {R : Rom} {a : List AV} {v : List Value} (h : VRs L R a v) (n : Nat) : VRs L R (a.take n) (v.take n) := by
  refine ⟨by simp [h.1], fun i x y hx hy => ?_⟩
  rw [List.getElem?_take] at hx hy
  split at hx
  · rename_i hi; rw [if_pos hi] at hy; exact h.2 i x y hx hy
  · simp at hx
theorem VRs.drop {L : Loc} {R : Rom} {a : List AV} {v : List Value} (h : VRs L R a v) (n : Nat) : VRs L R (a.drop n) (v.drop n) := by
  refine ⟨by simp [h.1], fun i x y hx hy => ?_⟩
  rw [List.getElem?_drop] at hx hy
  exact h.2 _ x y hx hy

theorem VR.oneCell {L : Loc} {R : Rom} {a : AV} {v : Value} (h : VR L R a v) (ho : a.one = true) : v.oneCell' = true := by
  cases h <;> first | rfl | (simp [AV.one] at ho; done) | skip
  rename_i hp
  cases v <;> simp_all [plainNil, Value.oneCell']

theorem VR.cells_one {L : Loc} {R : Rom} {a : AV} {v : Value} (h : VR L R a v) (ho : a.one = true) : a.cells = [a] ∧ v.cells = #[v] := by
  cases h <;> first | exact ⟨rfl, rfl⟩ | (simp [AV.one] at ho; done) | skip
  rename_i hp
  refine ⟨rfl, ?_⟩
  cases v <;> simp_all [plainNil, Value.cells]

theorem AV.val_cases {a : AV} (h : a.val = true) : a.one = true ∨ ∃ cs, a = .agg cs := by
  cases a <;> simp_all [AV.val, AV.one]

/-- The cells of related values are related, each of one cell. -/
theorem VR.cells {L : Loc} {R : Rom} {a : AV} {v : Value} (h : VR L R a v) (hu : a.val = true) : VRs L R a.cells v.cells.toList ∧ ∀ x ∈ a.cells, x.one = true := by
  rcases AV.val_cases hu with ho | ⟨cs, rfl⟩
  · obtain ⟨e1, e2⟩ := h.cells_one ho
    rw [e1, e2]
    exact ⟨.cons h (.nil _ _), by simpa using ho⟩
  · cases h with
    | agg _ vs hl ho hv =>
      exact ⟨⟨by simpa [AV.cells, Value.cells] using hl, fun i x y hx hy => hv i x y hx (by simpa [Value.cells] using hy)⟩, ho⟩

/-! ### Worlds -/

/-- An abstract block and a concrete one. -/
def BlkRel (L : Loc) (R : Rom) (w : World) (x : Blk) (p : Nat × Nat × Nat) : Prop :=
  match x with
  | .dead => True
  | .cells cs => ∃ C t fr, w.heap[p.1]? = some (.cells C t fr) ∧ C.size = p.2.2 ∧ p.2.1 + cs.length ≤ C.size ∧ (fr.1 = fr.2 ∨ (C.size ≤ fr.1 ∧ ∀ a ∈ cs, a.isU8 = true)) ∧
      (∀ a ∈ cs, a.one = true) ∧ (∀ (j : Nat) (a : AV), cs[j]? = some a → ∃ v, C[p.2.1 + j]? = some v ∧ VR L R a v) ∧
      ∀ (j : Nat) (v : Value), C[j]? = some v → ∃ a, a.one = true ∧ VR L R a v
  | .map es => ∃ E k, w.heap[p.1]? = some (.map E k) ∧ E.size = es.length ∧ ∀ (i : Nat) (e : AV × AV) (x : MapEntry), es[i]? = some e → E[i]? = some x → VR L R e.1 x.key ∧ VR L R e.2 x.val ∧ e.1.one = true ∧ e.2.val = true

structure Sim (L : Loc) (R : Rom) (H : Hp) (w : World) : Prop where
  dom : ∀ b x, L b = some x → b < H.n
  blk : ∀ b x, L b = some x → BlkRel L R w (H.get b) x
  inj : ∀ b b' x y, L b = some x → L b' = some y → H.get b ≠ .dead → H.get b' ≠ .dead → x.1 = y.1 → b = b'
  rom : ∀ c o v, R c o = some v → w.cell? ⟨c, o, none⟩ = some v
  apart : ∀ b x, L b = some x → H.get b ≠ .dead → ∀ o, R x.1 o = none

structure Step (L : Loc) (R : Rom) (H : Hp) (w : World) (L' : Loc) (R' : Rom) (H' : Hp) (w' : World) : Prop where
  fr : Fr H H'
  ext : ∀ b x, L b = some x → L' b = some x
  rext : ∀ c o v, R c o = some v → R' c o = some v
  new : ∀ b x, L' b = some x → L b = some x ∨ H.n ≤ b
  unm : ∀ b, b < H.n → L b = none → H'.get b = H.get b
  conc : ∀ c, c < w.heap.size → (∀ b x, L b = some x → H.get b ≠ .dead → x.1 ≠ c) → w'.heap[c]? = w.heap[c]?
  img : ∀ b x, L' b = some x → L b = some x ∨ w.heap.size ≤ x.1 ∨ ∃ b0 y, L b0 = some y ∧ H.get b0 ≠ .dead ∧ y.1 = x.1
  rnew : ∀ c o v, R' c o = some v → R c o = some v ∨ w.heap.size ≤ c
  size : w.heap.size ≤ w'.heap.size
  os : w'.os = w.os
  tape : w'.tape = w.tape
  output : w'.output = w.output

theorem Step.refl (L : Loc) (R : Rom) (H : Hp) (w : World) : Step L R H w L R H w :=
  ⟨.refl H, fun _ _ h => h, fun _ _ _ h => h, fun _ _ h => .inl h, fun _ _ _ => rfl, fun _ _ _ => rfl, fun _ _ h => .inl h, fun _ _ _ h => .inl h, Nat.le_refl _, rfl, rfl, rfl⟩

theorem Step.trans {L L1 L2 : Loc} {R R1 R2 : Rom} {H H1 H2 : Hp} {w w1 w2 : World} (hd : ∀ b x, L b = some x → b < H.n)
    (h : Step L R H w L1 R1 H1 w1) (k : Step L1 R1 H1 w1 L2 R2 H2 w2) : Step L R H w L2 R2 H2 w2 := by
  have live : ∀ b, b < H.n → H1.get b ≠ .dead → H.get b ≠ .dead := fun b hb h1 h0 => h1 (h.fr.dead b hb h0)
  refine ⟨h.fr.trans k.fr, fun b x e => k.ext b x (h.ext b x e), fun c o v e => k.rext c o v (h.rext c o v e), fun b x e => ?_, fun b hb e => ?_, fun c hc hn => ?_, fun b x e => ?_, fun c o v e => ?_,
    Nat.le_trans h.size k.size, k.os.trans h.os, k.tape.trans h.tape, k.output.trans h.output⟩
  · rcases k.new b x e with e | e
    · exact h.new b x e
    · exact .inr (Nat.le_trans h.fr.n e)
  · rw [k.unm b (Nat.lt_of_lt_of_le hb h.fr.n) ?_, h.unm b hb e]
    cases hb1 : L1 b with
    | none => rfl
    | some x => rcases h.new b x hb1 with h1 | h1
                · rw [e] at h1; cases h1
                · omega
  · rw [k.conc c (Nat.lt_of_lt_of_le hc h.size) (fun b x e hl => ?_), h.conc c hc hn]
    rcases h.img b x e with e1 | e1 | ⟨b0, y, e1, hl0, e2⟩
    · exact hn b x e1 (live b (hd b x e1) hl)
    · omega
    · rw [← e2]; exact hn b0 y e1 hl0
  · rcases k.img b x e with e | e | ⟨b0, y, e1, hl0, e2⟩
    · exact h.img b x e
    · exact .inr (.inl (Nat.le_trans h.size e))
    · rcases h.img b0 y e1 with e3 | e3 | ⟨b1, z, e3, hl1, e4⟩
      · exact .inr (.inr ⟨b0, y, e3, live b0 (hd b0 y e3) hl0, e2⟩)
      · exact .inr (.inl (by omega))
      · exact .inr (.inr ⟨b1, z, e3, hl1, e4.trans e2⟩)
  · rcases k.rnew c o v e with e | e
    · exact h.rnew c o v e
    · exact .inr (Nat.le_trans h.size e)

end Go.Ab
