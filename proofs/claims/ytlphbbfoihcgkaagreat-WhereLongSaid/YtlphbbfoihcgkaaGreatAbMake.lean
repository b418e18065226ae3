/- Part of the proof over the seat YtlphbbfoihcgkaaGreat: AbMake. No conditions of its own. -/
import Derived.Test.YtlphbbfoihcgkaaGreatAbOp
namespace Go.Ab
variable {P : Program} {L : Loc} {R : Rom} {H H' : Hp} {w : World} {E : Env} {env : Tr AV} {ρ : Operand → Value} {o : Oper}

/-- An operation that makes a block. -/
def Made (P : Program) (L : Loc) (R : Rom) (w : World) (s : Sem Next) (f : Nat → AV) (x : Blk) : Prop :=
  ∃ val w' sz, s.run P w = .ok (.value val) w' ∧ w'.heap.size = w.heap.size + 1 ∧ (∀ c, c < w.heap.size → w'.heap[c]? = w.heap[c]?) ∧ w'.os = w.os ∧ w'.tape = w.tape ∧ w'.output = w.output ∧
    BlkRel L R w' x (w.heap.size, 0, sz) ∧ x ≠ .dead ∧ ∀ L' R' b, L' b = some (w.heap.size, 0, sz) → VR L' R' (f b) val

theorem alloc_get (w : World) (x : Obj) (c : Nat) (hc : c < w.heap.size) : (w.alloc x).heap[c]? = w.heap[c]? := by
  show (w.heap.push x)[c]? = _
  rw [Array.getElem?_push, if_neg (by omega)]
theorem alloc_new (w : World) (x : Obj) : (w.alloc x).heap[w.heap.size]? = some x := by
  show (w.heap.push x)[w.heap.size]? = _
  simp
theorem alloc_size (w : World) (x : Obj) : (w.alloc x).heap.size = w.heap.size + 1 := by
  show (w.heap.push x).size = _
  simp

theorem cellsRel_new {cs : List AV} {C : Array Value} (h : VRs L R cs C.toList) (ho : ∀ a ∈ cs, a.one = true) (w : World) (t : Nat) : BlkRel L R (w.alloc (.cells C t)) (.cells cs) (w.heap.size, 0, C.size) :=
  ⟨C, t, (0, 0), alloc_new _ _, rfl, by have := h.1; simp at this; simp; omega, .inl rfl, ho, fun j a ha => by
    obtain ⟨v, h1, h2⟩ := h.get ha
    exact ⟨v, by simpa using h1, h2⟩, fun j v hv => h.rep ho (j := j) (by simpa using hv)⟩

theorem Made.cells {s : Sem Next} {f : Nat → AV} {cs : List AV} {C : Array Value} {t : Nat} {val : Value} (hs : s.run P w = .ok (.value val) (w.alloc (.cells C t)))
    (h : VRs L R cs C.toList) (ho : ∀ a ∈ cs, a.one = true) (hf : ∀ L' R' b, L' b = some (w.heap.size, 0, C.size) → VR L' R' (f b) val) : Made P L R w s f (.cells cs) :=
  ⟨val, _, C.size, hs, alloc_size _ _, fun c hc => alloc_get _ _ _ hc, rfl, rfl, rfl, cellsRel_new h ho w t, by simp, hf⟩

theorem repeat_length (z : List AV) : ∀ n, (repeatCells z n).length = n * z.length
  | 0 => by simp [repeatCells]
  | n + 1 => by simp [repeatCells, repeat_length z n, Nat.add_mul]; omega

theorem repeat_get (z : List AV) : ∀ (n q : Nat) (a : AV), (repeatCells z n)[q]? = some a → z[q % z.length]? = some a ∧ q < n * z.length
  | 0, q, a, h => by simp [repeatCells] at h
  | n + 1, q, a, h => by
    simp only [repeatCells] at h
    by_cases hq : q < z.length
    · rw [List.getElem?_append_left hq] at h
      rw [Nat.mod_eq_of_lt hq]
      exact ⟨h, by rw [Nat.add_mul]; omega⟩
    · rw [List.getElem?_append_right (by omega)] at h
      obtain ⟨h1, h2⟩ := repeat_get z n _ a h
      have hz : 0 < z.length := by
        rcases Nat.eq_zero_or_pos z.length with h0 | h0
        · rw [h0] at h2; simp at h2
        · exact h0
      refine ⟨?_, by rw [Nat.add_mul]; omega⟩
      rw [← h1]
      congr 1
      rw [Nat.mod_eq_sub_mod (by omega)]

theorem repeat_one {z : List AV} (h : ∀ a ∈ z, a.one = true) : ∀ n, ∀ a ∈ repeatCells z n, a.one = true
  | 0, a, ha => by simp [repeatCells] at ha
  | n + 1, a, ha => by
    simp only [repeatCells, List.mem_append] at ha
    rcases ha with ha | ha
    · exact h a ha
    · exact repeat_one h n a ha

theorem fill_length {place : Nat → Option (Nat × Nat)} : ∀ (l : List (Nat × AV)) (cs cs' : List AV), fill place cs l = some cs' → cs'.length = cs.length
  | [], cs, cs', h => by simp [fill] at h; rw [h]
  | (i, v) :: l, cs, cs', h => by
    simp only [fill] at h
    split at h
    · simp at h
    · split at h
      · rename_i hb
        rw [fill_length l _ _ h, overwrite_length (by omega)]
      · simp at h

/-- A row of zeros. -/
theorem zeros_sound {z : List AV} {Z : Array Value} (h : VRs L R z Z.toList) (n : Nat) (m : Nat) (hm : m = n * z.length) : VRs L R (repeatCells z n) ((Array.range m).map (Z[· % Z.size]!)).toList := by
  subst hm
  have hZ : Z.size = z.length := by simpa using h.1.symm
  refine ⟨by simp [repeat_length], fun q a v ha hv => ?_⟩
  obtain ⟨h1, h2⟩ := repeat_get z n q a ha
  have hz : 0 < z.length := by
    rcases Nat.eq_zero_or_pos z.length with h0 | h0
    · rw [h0] at h2; simp at h2
    · exact h0
  have hv' : v = Z[q % Z.size]! := by
    simp [h2] at hv
    exact hv.symm
  obtain ⟨u, h3, h4⟩ := h.get h1
  have h3' : Z[q % z.length]? = some u := by simpa using h3
  rw [hv', hZ, getElem!_def, h3']
  exact h4

theorem a_sound (hT : TyOk P E.ty) (hE : ER L R env ρ o.op.operands.toList) {f : Nat → AV} {x : Blk} (hk : kindOf E o.op = .al) (h : evA E env o.op = some (f, x)) : Made P L R w (execOp ρ o) f x := by
  unfold execOp
  cases hop : o.op <;> rw [hop] at h hE hk <;> simp only [evA] at h <;> (first | (cases h; done) | skip)
  case alloc t =>
    split at h
    · rename_i ti hti
      simp at h; obtain ⟨rfl, rfl⟩ := h
      obtain ⟨z, hz, hzr, _, _⟩ := (hT _ _ hti).run_zero (w := w)
      obtain ⟨h1, h2⟩ := hzr L R
      refine Made.cells (C := z.cells) (t := t) (val := .pointer (some ⟨w.heap.size, 0, none⟩)) ?_ h1 h2 (fun L' R' b hb => .ptr b 0 _ 0 _ hb)
      simp only [Instr.alloc, Sem.run_bind, hz, Result.andThen_ok]
      rfl
    · simp at h
  case box t y =>
    split at h
    · rename_i a ha
      split at h
      · rename_i hval
        simp at h; obtain ⟨rfl, rfl⟩ := h
        obtain ⟨h1, h2⟩ := (hE y (by simp [Op.operands]) a ha).cells hval
        exact Made.cells (C := (ρ y).cells) (t := t) (val := .pointer (some ⟨w.heap.size, 0, none⟩)) rfl h1 h2 (fun L' R' b hb => .ptr b 0 _ 0 _ hb)
      · simp at h
    · simp at h
  case buildSlice t n ps =>
    split at h
    · rename_i ti l hti hl
      have hpr : PartsR L R l (ps.map fun x => (x.1, ρ x.2)).toList := by
        rw [Array.toList_map]
        refine ER.parts (fun x hx => hE x ?_) hl
        simpa [Op.operands] using hx
      obtain ⟨d, hd, hkk⟩ := (hT _ _ hti).und
      split at h
      · rename_i e hq
        rw [hq] at hkk
        cases descOk_sl hkk
        split at h
        · rename_i ei hei
          split at h
          · rename_i hb
            obtain ⟨hb1, hb2, hb3⟩ := hb
            split at h
            · rename_i cs hcs
              simp at h; obtain ⟨rfl, rfl⟩ := h
              obtain ⟨z, hz, hzr, _, _⟩ := (hT _ _ hei).run_zero (w := w)
              obtain ⟨h1, h2⟩ := hzr L R
              have hzs : z.cells.size = ei.sz := by have := h1.1; simp at this; omega
              -- the row of zeros
              have hrow : ∃ Z : Array Value, ((n * ei.sz = 0 ∧ Z = #[]) ∨ (n * ei.sz ≠ 0 ∧ Z = z.cells)) ∧ VRs L R (repeatCells ei.zero n) ((Array.range (n * ei.sz)).map (Z[· % Z.size]!)).toList := by
                by_cases h0 : n * ei.sz = 0
                · refine ⟨#[], .inl ⟨h0, rfl⟩, ?_⟩
                  rw [h0]
                  have : repeatCells ei.zero n = [] := List.length_eq_zero_iff.1 (by rw [repeat_length, hb3, h0])
                  rw [this]; simpa using VRs.nil L R
                · exact ⟨z.cells, .inr ⟨h0, rfl⟩, zeros_sound h1 n _ (by rw [hb3])⟩
              obtain ⟨Z, hZ, hZr⟩ := hrow
              obtain ⟨C', e1, e2, e3⟩ := fill_sound (place' := fun i => some (i * ei.sz, ei.sz)) (fun i x hx => hx) l _ _ _ cs hpr hZr (repeat_one h2 n) hcs
              have hlen : cs.length = n * ei.sz := by rw [fill_length _ _ _ hcs, repeat_length, hb3]
              have hCs : C'.size = n * ei.sz := by have := e2.1; simp at this; omega
              refine Made.cells (C := C') (t := e) (val := .slice (some ⟨w.heap.size, 0, none⟩) n n) ?_ e2 e3 (fun L' R' b hb => ?_)
              · have hle : ¬ n * ei.sz > 2 ^ 24 := by
                  have : n * ei.sz ≤ 2 ^ 10 * 2 ^ 10 := Nat.mul_le_mul (by omega) (by omega)
                  omega
                have e1' : Instr.fill (fun i => some (i * ei.sz, ei.sz)) ((Array.range (n * ei.sz)).map (Z[· % Z.size]!)) (ps.map fun x => (x.1, ρ x.2)).toList = some C' := e1
                simp only [Instr.buildSlice, Sem.run_bind, run_und hd, Result.andThen_ok, (hT _ _ hei).run_size, if_neg hle]
                rcases hZ with ⟨h0, rfl⟩ | ⟨h0, rfl⟩
                · simp only [if_pos h0, Sem.run_bind, Sem.run_pure, Result.andThen_ok, e1']
                  rfl
                · simp only [if_neg h0, Sem.run_bind, hz, Sem.run_pure, Result.andThen_ok, e1']
                  rfl
              · exact .ref b 0 n ei.sz n true w.heap.size 0 _ n hb (Nat.le_refl _) (Nat.le_refl _) (fun _ => rfl) (by omega)
            · simp at h
          · simp at h
        · simp at h
      · simp at h
    · simp at h
  case makeMap t r =>
    cases r <;> simp only at h
    · simp at h; obtain ⟨rfl, rfl⟩ := h
      refine ⟨.map (some w.heap.size), w.alloc (.map #[] 0), 0, rfl, alloc_size _ _, fun c hc => alloc_get _ _ _ hc, rfl, rfl, rfl, ⟨#[], 0, alloc_new _ _, rfl, by simp⟩, by simp, fun L' R' b hb => .map b _ _ _ hb⟩
    · simp at h
  case makeSlice t l c =>
    split at h
    · rename_i ti lv cv hti hlv hcv
      obtain ⟨d, hd, hkk⟩ := (hT _ _ hti).und
      split at h
      · rename_i e ln cn hq hln hcn
        rw [hq] at hkk
        cases descOk_sl hkk
        split at h
        · rename_i ei hei
          split at h
          · rename_i hb
            obtain ⟨hb1, hb2, hb3, hb4⟩ := hb
            simp at h; obtain ⟨rfl, rfl⟩ := h
            obtain ⟨z, hz, hzr, _, _⟩ := (hT _ _ hei).run_zero (w := w)
            obtain ⟨h1, h2⟩ := hzr L R
            have hzs : z.cells.size = ei.sz := by have := h1.1; simp at this; omega
            obtain ⟨i, hi, his, hib, _⟩ := (hT _ _ hei).info
            obtain ⟨k1, hρ1⟩ := natOf_val hln (hE l (by simp [Op.operands]) _ hlv)
            obtain ⟨k2, hρ2⟩ := natOf_val hcn (hE c (by simp [Op.operands]) _ hcv)
            have hrow : ∃ Z : Array Value, ((cn * ei.sz = 0 ∧ Z = #[]) ∨ (cn * ei.sz ≠ 0 ∧ Z = z.cells)) ∧ VRs L R (repeatCells ei.zero cn) ((Array.range (cn * ei.sz)).map (Z[· % Z.size]!)).toList := by
              by_cases h0 : cn * ei.sz = 0
              · refine ⟨#[], .inl ⟨h0, rfl⟩, ?_⟩
                rw [h0]
                have : repeatCells ei.zero cn = [] := List.length_eq_zero_iff.1 (by rw [repeat_length, hb4, h0])
                rw [this]; simpa using VRs.nil L R
              · exact ⟨z.cells, .inr ⟨h0, rfl⟩, zeros_sound h1 cn _ (by rw [hb4])⟩
            obtain ⟨Z, hZ, hZr⟩ := hrow
            have wl : IntKind.i64.wrap (ln : Int) = ln := by
              simp [IntKind.wrap, IntKind.bits, IntKind.signed]; omega
            have wc : IntKind.i64.wrap (cn : Int) = cn := by
              simp [IntKind.wrap, IntKind.bits, IntKind.signed]; omega
            have hbytes : ((i.bytes : Int) * (cn : Int)) = ((cn * ei.bytes : Nat) : Int) := by rw [hib]; push_cast; exact Int.mul_comm _ _
            have hnot : (decide ((cn : Int) < 0) || decide ((i.bytes : Int) * (cn : Int) > 2 ^ 48)) = false := by
              rw [hbytes]
              simp; omega
            refine Made.cells (C := (Array.range (cn * ei.sz)).map (Z[· % Z.size]!)) (t := e) (val := .slice (some ⟨w.heap.size, 0, none⟩) ln cn) ?_ hZr (repeat_one h2 cn) (fun L' R' b hb => ?_)
            · have hcond : (decide ((cn : Int) < 0) || decide ((i.bytes : Int) * (cn : Int) > 2 ^ 48) || decide ((ln : Int) < 0) || decide ((ln : Int) > (cn : Int))) = false := by
                rw [hnot]; simp; omega
              simp only [Instr.makeSlice, Sem.run_bind, run_und hd, Result.andThen_ok, hρ1, hρ2, asInt, asIntOf, Sem.run_pure, wl, wc, typeInfo, run_program, hi]
              rw [if_neg (by rw [hcond]; simp)]
              simp only [Int.toNat_natCast, Sem.run_bind, run_askRoom, (hT _ _ hei).run_size, Result.andThen_ok]
              rcases hZ with ⟨h0, rfl⟩ | ⟨h0, rfl⟩
              · simp only [if_pos h0, Sem.run_bind, Sem.run_pure, Result.andThen_ok]
                rfl
              · simp only [if_neg h0, Sem.run_bind, hz, Sem.run_pure, Result.andThen_ok]
                rfl
            · exact .ref b 0 ln ei.sz cn true w.heap.size 0 _ cn hb hb1 (Nat.le_refl _) (fun _ => rfl) (by simp)
          · simp at h
        · simp at h
      · simp at h
    · simp at h
  case convert s d y =>
    split at h
    · rename_i si di a hsi hdi ha
      obtain ⟨ds, hds, hks⟩ := (hT _ _ hsi).und
      obtain ⟨dd, hdd, hkd⟩ := (hT _ _ hdi).und
      split at h
      · rename_i e s' hq1 hq2
        rw [hq1] at hks
        rw [hq2] at hkd
        cases ds <;> simp only [descOk, Bool.false_eq_true] at hks
        cases descOk_sl hkd
        split at h
        · rename_i ei hei
          obtain ⟨de, hde, hke⟩ := (hT _ _ hei).und
          split at h
          · rename_i hq3
            rw [hq3] at hke
            cases de <;> simp only [descOk, Bool.false_eq_true] at hke
            cases kEq_eq hke
            split at h
            · rename_i hlen
              simp at h; obtain ⟨rfl, rfl⟩ := h
              have hy := (hE y (by simp [Op.operands]) _ ha).str_inv
              obtain ⟨cap, hcap, hrun⟩ : ∃ cap, s'.length ≤ cap ∧ (choose (.appendCap s'.length 0 e)).run P w = .ok cap { w with drawn := w.drawn + 1 } := by
                refine ⟨_, ?_, by simp [Question.forced]; rfl⟩
                simp only [Question.cut]
                omega
              let C : Array Value := s'.toArray.map (fun b => Value.int .u8 b.toNat) ++ Array.replicate (cap - s'.length) (.int .u8 0)
              have hC : C.size = cap := by simp [C]; omega
              let w1 : World := { w with drawn := w.drawn + 1 }
              let w3 : World := (w1.alloc (.cells C e)).freeze ⟨w.heap.size, C.size, none⟩ 1
              have hnew : (w1.alloc (.cells C e)).heap[w.heap.size]? = some (.cells C e) := alloc_new w1 _
              have hw3 : w3.heap = (w1.alloc (.cells C e)).heap.setIfInBounds w.heap.size (.cells C e (C.size, C.size + 1)) := by
                apply Array.ext_getElem?
                intro k
                simp only [w3, World.freeze, if_neg (by decide : ¬ (1 = 0))]
                rw [Array.getElem?_modify, Array.getElem?_setIfInBounds]
                by_cases hk : w.heap.size = k
                · subst hk
                  rw [if_pos rfl, if_pos rfl, if_pos (lt_of_get hnew), hnew]
                  rfl
                · rw [if_neg hk, if_neg hk]
              refine ⟨.slice (some ⟨w.heap.size, 0, none⟩) s'.length cap, w3, C.size, ?_, ?_, ?_, rfl, rfl, rfl, ?_, by simp, fun L' R' b hb => ?_⟩
              · have hconv : (Go.convert s d (ρ y)).run P w = .ok (.slice (some ⟨w.heap.size, 0, none⟩) s'.length cap) w3 := by
                  rw [hy]
                  have hsz : (⟨s'.toArray⟩ : ByteArray).size = s'.length := by simp [ByteArray.size]
                  have hshape : (w1.alloc (.cells C e)).shape? w.heap.size = some (e, C.size) := by
                    simp only [World.shape?, hnew]
                  have halloc : (newRow e C).run P w1 = .ok ⟨w.heap.size, 0, none⟩ (w1.alloc (.cells C e)) := rfl
                  have hmark : (markStringish ⟨w.heap.size, 0, none⟩).run P (w1.alloc (.cells C e)) = .ok () w3 := by
                    simp only [markStringish, Sem.run_bind, run_shape, Result.andThen_ok, hshape, run_freeze]
                    rfl
                  simp only [Go.convert, Sem.run_bind, run_und hds, run_und hdd, run_und hde, Result.andThen_ok, Conv.stringToBytes, hrun, hsz]
                  refine (congrArg (fun r => Result.andThen r _) halloc).trans ?_
                  simp only [Result.andThen_ok]
                  refine (congrArg (fun r => Result.andThen r _) hmark).trans ?_
                  simp only [Result.andThen_ok, Sem.run_pure]
                simp only [Sem.run_bind, hconv, Result.andThen_ok, Sem.run_pure]
              · rw [hw3]; simp [World.alloc, w1]
              · intro c hc
                rw [hw3, Array.getElem?_setIfInBounds, if_neg (by omega)]
                exact alloc_get w1 _ c hc
              · refine ⟨C, e, (C.size, C.size + 1), ?_, rfl, ?_, .inr ⟨Nat.le_refl _, fun a ha => by obtain ⟨b, _, rfl⟩ := List.mem_map.1 ha; rfl⟩, ?_, fun j a ha => ?_, fun j v hjv => ?_⟩
                · rw [hw3, Array.getElem?_setIfInBounds, if_pos rfl, if_pos (lt_of_get hnew)]
                · simp; omega
                · intro a ha; obtain ⟨b, _, rfl⟩ := List.mem_map.1 ha; rfl
                · simp only [List.getElem?_map, Option.map_eq_some_iff] at ha
                  obtain ⟨b, hb, rfl⟩ := ha
                  have hj : j < s'.length := (List.getElem?_eq_some_iff.1 hb).1
                  refine ⟨.int .u8 b.toNat, ?_, .int _ _⟩
                  simp only [C, Nat.zero_add]
                  rw [Array.getElem?_append_left (by simpa using hj)]
                  simp [hb]
                · simp only [C] at hjv
                  rw [Array.getElem?_append] at hjv
                  split at hjv
                  · rw [Array.getElem?_map] at hjv
                    obtain ⟨b, _, rfl⟩ := Option.map_eq_some_iff.1 hjv
                    exact ⟨_, rfl, .int _ _⟩
                  · rw [Array.getElem?_replicate] at hjv
                    split at hjv
                    · cases hjv; exact ⟨_, rfl, .int _ _⟩
                    · cases hjv
              · exact .ref b 0 s'.length 1 s'.length false w.heap.size 0 _ cap hb hcap hcap (fun h => by simp at h) (by omega)
            · simp at h
          · simp at h
        · simp at h
      · simp at h
    · simp at h

end Go.Ab
