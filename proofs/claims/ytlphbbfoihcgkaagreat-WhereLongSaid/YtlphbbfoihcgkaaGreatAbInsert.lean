/- Part of the proof over the seat YtlphbbfoihcgkaaGreat: AbInsert. No conditions of its own. -/
import Derived.Test.YtlphbbfoihcgkaaGreatAbFn
import Derived.Lib.Overlaps
import Derived.Lib.AppendZerosOnto
namespace Go.Ab
variable {P : Program} {L : Loc} {R : Rom} {H H' : Hp} {w : World}

/-! ### slices.Insert of one element of two cells -/

/-- The walks through the library's text. -/
structure InsWalk (P : Program) (f fo T e : Nat) : Prop where
  call : ∀ (args : Array Value) (w : World), (callFunc f args).run P w = .ok (.enter f args) w
  und : P.underlying T = some (.slice e)
  und3 : P.underlying 3 = some (.int .i64)
  over : ∀ (args : Array Value) (w : World), (callFunc fo args).run P w = ((Extern.SlicesOverlaps.overlaps #[T, T] #[4] args).run P w).andThen fun v w' => .ok (.value v) w'
  shift : ∀ (c o n cap i vb voff vc : Nat) (x1 x2 : Value) (w W1 W2 : World), i < n → n + 1 ≤ cap → n < 1099511627776 →
    (∀ ty dc sc, (Builtin.copy_ #[T, T] ty #[.slice (some ⟨c, o + (i + 1) * 2, none⟩) (n - i) dc, .slice (some ⟨c, o + i * 2, none⟩) (n + 1 - i) sc]).run P w.drew = .ok x1 W1) →
    (∀ ty dc, (Builtin.copy_ #[T, T] ty #[.slice (some ⟨c, o + i * 2, none⟩) (n + 1 - i) dc, .slice (some ⟨vb, voff, none⟩) 1 vc]).run P W1 = .ok x2 W2) →
    (∀ lb cb, (callFunc fo #[.slice (some ⟨vb, voff, none⟩) 1 vc, .slice (some ⟨c, o + (i + 1) * 2, none⟩) lb cb]).run P w = .ok (.value (.bool false)) w) →
    Calls P f #[.slice (some ⟨c, o, none⟩) n cap, .int .i64 i, .slice (some ⟨vb, voff, none⟩) 1 vc] w fun e w' => e = .returned (.slice (some ⟨c, o, none⟩) (n + 1) cap) ∧ w' = W2
  grow : ∀ (c o n cap i vb voff vc c2 G : Nat) (x1 x2 : Value) (w W1 W2 W3 : World), i < n → ¬ n + 1 ≤ cap → n ≤ cap → n < 1099511627776 → n + 1 ≤ G →
    (∀ ty, (Builtin.append_ #[T, 3] ty #[.slice (some ⟨c, o, none⟩) i cap, .int .i64 ((n : Int) + 1 - i)]).run P w = .ok (.slice (some ⟨c2, 0, none⟩) (n + 1) G) W1) →
    (∀ ty dc, (Builtin.copy_ #[T, T] ty #[.slice (some ⟨c2, i * 2, none⟩) (n + 1 - i) dc, .slice (some ⟨vb, voff, none⟩) 1 vc]).run P W1 = .ok x1 W2) →
    (∀ ty dc sc, (Builtin.copy_ #[T, T] ty #[.slice (some ⟨c2, (i + 1) * 2, none⟩) (n - i) dc, .slice (some ⟨c, o + i * 2, none⟩) (n - i) sc]).run P W2.drew = .ok x2 W3) →
    Calls P f #[.slice (some ⟨c, o, none⟩) n cap, .int .i64 i, .slice (some ⟨vb, voff, none⟩) 1 vc] w fun e w' => e = .returned (.slice (some ⟨c2, 0, none⟩) (n + 1) G) ∧ w' = W3
  fin : ∀ (val : Value) (n : Nat) (base : Option Addr) (cap vb voff vc : Nat) (w W1 : World),
    (∀ ty, (Builtin.append_ #[T, T] ty #[.slice base n cap, .slice (some ⟨vb, voff, none⟩) 1 vc]).run P w = .ok val W1) →
    Calls P f #[.slice base n cap, .int .i64 n, .slice (some ⟨vb, voff, none⟩) 1 vc] w fun e w' => e = .returned val ∧ w' = W1

def insertP (ei : TI) : Prim := fun args H => match args with
  | [s, .int .i64 (.ofNat i), .ref bv offv 1 2 capv exv] => match cellsOf H ei.sz 1 (.ref bv offv 1 2 capv exv), lenAV H s with
    | some vs, some n => match Nat.beq i n with
      | true => match s with
        | .nsl => appendTo H ei s 1 vs
        | .ref _ _ _ _ _ _ => appendTo H ei s 1 vs
        | _ => none
      | false => match s with
        | .ref b off _ 2 _ _ => match H.get b with
          | .cells cs => match vs with
            | v0 :: _ => if i < n ∧ n < 2 ^ 30 ∧ ei.sz = 2 ∧ ei.zero.length = 2 ∧ ei.bytes < 2 ^ 10 ∧ b ≠ bv ∧ off + n * 2 ≤ cs.length ∧ v0.isU8 = false ∧ allU8 ei.zero = false then
              (match (cs.drop off).take (n * 2), cs.drop off with
               | K, k0 :: _ => if k0.isU8 = false then some (.ref H.n 0 (n + 1) 2 (n + 1) false, (H.put b .dead).push (.cells (K.take (i * 2) ++ vs ++ K.drop (i * 2)))) else none
               | _, _ => none) else none
            | _ => none
          | _ => none
        | _ => none
    | _, _ => none
  | _ => none

/-- The cells of a block are looked at in another way. -/
theorem review_sound (hS : Sim L R H w) {b c o sz : Nat} (hL : L b = some (c, o, sz)) (hl : H.get b ≠ .dead) {x : List AV} {o' : Nat} (hx : BlkRel L R w (.cells x) (c, o', sz)) :
    ∃ L', Sim L' R ((H.put b .dead).push (.cells x)) w ∧ Step L R H w L' R ((H.put b .dead).push (.cells x)) w ∧ L' H.n = some (c, o', sz) ∧ (∀ k y, L k = some y → L' k = some y) ∧ ∀ k, k ≠ H.n → L' k = L k := by
  let L' : Loc := fun k => if k = H.n then some (c, o', sz) else L k
  have hLn : L H.n = none := by
    cases h : L H.n with
    | none => rfl
    | some x => exact absurd (hS.dom _ _ h) (Nat.lt_irrefl _)
  have hext : ∀ b y, L b = some y → L' b = some y := fun b y h => by
    have : b ≠ H.n := by rintro rfl; rw [hLn] at h; cases h
    simp only [L', if_neg this, h]
  have hgo : ∀ b, b ≠ H.n → L' b = L b := fun b h => by simp only [L', if_neg h]
  have hgn : L' H.n = some (c, o', sz) := by simp [L']
  have hbn : b < H.n := hS.dom b _ hL
  have hne : ∀ b' q, L b' = some q → H.get b' ≠ .dead → b' ≠ b → q.1 ≠ c := fun b' q hq hl' hb' e => hb' (hS.inj b' b q _ hq hL hl' hl e)
  have hget : ∀ k, ((H.put b .dead).push (.cells x)).get k = if k = H.n then .cells x else if k = b then .dead else H.get k := by
    intro k; rw [Hp.get_push, Hp.get_put]; rfl
  refine ⟨L', ⟨fun b' q hq => ?_, fun b' q hq => ?_, fun b1 b2 q1 q2 h1 h2 d1 d2 e => ?_, hS.rom, fun b' q hq hd o'' => ?_⟩, ⟨(Fr.put H b .dead hl).trans (.push _ _), hext, fun _ _ _ h => h, fun b' y h => ?_, fun b' hb' e => ?_, fun _ _ _ => rfl, fun b' y h => ?_, fun _ _ _ h => .inl h, Nat.le_refl _, rfl, rfl, rfl⟩, hgn, hext, hgo⟩
  · by_cases hk : b' = H.n
    · subst hk; simp
    · rw [hgo b' hk] at hq; have := hS.dom b' q hq; simp; omega
  · rw [hget]
    by_cases hk : b' = H.n
    · subst hk; rw [if_pos rfl]; rw [hgn] at hq; cases hq
      exact hx.mono hext (fun _ _ _ h => h)
    · rw [if_neg hk]; rw [hgo b' hk] at hq
      by_cases hk2 : b' = b
      · rw [if_pos hk2]; trivial
      · rw [if_neg hk2]
        exact (hS.blk b' q hq).mono hext (fun _ _ _ h => h)
  · rw [hget] at d1 d2
    by_cases k1 : b1 = H.n
    · by_cases k2 : b2 = H.n
      · rw [k1, k2]
      · rw [if_neg k2] at d2
        by_cases k3 : b2 = b
        · rw [if_pos k3] at d2; exact absurd rfl d2
        · rw [if_neg k3] at d2
          rw [hgo b2 k2] at h2
          subst k1; rw [hgn] at h1; cases h1
          exact absurd e.symm (hne b2 q2 h2 d2 k3)
    · rw [if_neg k1] at d1
      by_cases k3 : b1 = b
      · rw [if_pos k3] at d1; exact absurd rfl d1
      · rw [if_neg k3] at d1
        rw [hgo b1 k1] at h1
        by_cases k2 : b2 = H.n
        · subst k2; rw [hgn] at h2; cases h2
          exact absurd e (hne b1 q1 h1 d1 k3)
        · rw [if_neg k2] at d2
          by_cases k4 : b2 = b
          · rw [if_pos k4] at d2; exact absurd rfl d2
          · rw [if_neg k4] at d2
            rw [hgo b2 k2] at h2
            exact hS.inj b1 b2 q1 q2 h1 h2 d1 d2 e
  · rw [hget] at hd
    by_cases hk : b' = H.n
    · subst hk; rw [hgn] at hq; cases hq
      exact hS.apart b _ hL hl o''
    · rw [if_neg hk] at hd
      rw [hgo b' hk] at hq
      by_cases hk2 : b' = b
      · subst hk2; rw [hL] at hq; cases hq; exact hS.apart b' _ hL hl o''
      · rw [if_neg hk2] at hd
        exact hS.apart b' q hq hd o''
  · by_cases hk : b' = H.n
    · subst hk; exact .inr (Nat.le_refl _)
    · rw [hgo b' hk] at h; exact .inl h
  · rw [hget, if_neg (by omega), if_neg]
    rintro rfl; rw [hL] at e; cases e
  · by_cases hk : b' = H.n
    · subst hk; rw [hgn] at h; cases h
      exact .inr (.inr ⟨b, _, hL, hl, rfl⟩)
    · rw [hgo b' hk] at h; exact .inl h

theorem copy_sound (hS : Sim L R H w) {T e : Nat} (hd : P.underlying T = some (.slice e)) {ei : TI} (hei : TyRel P e ei) {b c o sz off len : Nat} (hL : L b = some (c, o, sz))
    {base2 : Option Addr} {sn n : Nat} (hn : Nat.min sn len = n) {new : List AV} {vals : List Value} (hf : ∀ (w1 : World) (sc : Nat), w1.heap = w.heap → (Builtin.firstCells ei.sz n (.slice base2 sn sc)).run P w1 = .ok vals.toArray w1)
    (hv : VRs L R new vals) (hone : ∀ a ∈ new, a.one = true) (hl : new.length = n * ei.sz)
    {cs : List AV} (hcs : H.get b = .cells cs) (hfit : off + n * ei.sz ≤ cs.length) (hu : (∀ a ∈ cs, a.isU8 = true) → ∀ a ∈ new, a.isU8 = true) :
    ∃ w', (∀ ty dc sc, (Builtin.copy_ #[T, T] ty #[.slice (some ⟨c, o + off, none⟩) len dc, .slice base2 sn sc]).run P w = .ok (goInt n) w') ∧ Sim L R (H.put b (.cells (overwrite cs off new))) w' ∧
      Step L R H w L R (H.put b (.cells (overwrite cs off new))) w' := by
  obtain ⟨w', e1, e2, e3⟩ := write_sound P hS hL hcs (off := off) hv hone (by rw [hl]; exact hfit) hu
  refine ⟨w', fun ty dc sc => ?_, e2, e3⟩
  simp [Builtin.copy_, run_und hd, Builtin.lenOf, hn, hei.run_size, hf w sc rfl, e1]

theorem BlkRel.take {cs : List AV} {p : Nat × Nat × Nat} (h : BlkRel L R w (.cells cs) p) (k : Nat) : BlkRel L R w (.cells (cs.take k)) p := by
  obtain ⟨C, t, fr, h1, h2, h3, h4, h5, h6, h7⟩ := h
  refine ⟨C, t, fr, h1, h2, by simp; omega, h4.imp_right fun h => ⟨h.1, fun a ha => h.2 a (List.mem_of_mem_take ha)⟩, fun a ha => h5 a (List.mem_of_mem_take ha), fun j a ha => ?_, h7⟩
  rw [List.getElem?_take] at ha
  split at ha
  · exact h6 j a ha
  · cases ha

theorem drew_sim (h : Sim L R H w) : Sim L R H w.drew := sim_heap h rfl
theorem drew_step (_h : Sim L R H w) : Step L R H w L R H w.drew :=
  ⟨.refl H, fun _ _ h => h, fun _ _ _ h => h, fun _ _ h => .inl h, fun _ _ _ => rfl, fun _ _ _ => rfl, fun _ _ h => .inl h, fun _ _ _ h => .inl h, Nat.le_refl _, rfl, rfl, rfl⟩

/-- Another memory that says no more. -/
theorem Sim.swap {H1 : Hp} (h : Sim L R H1 w) {H2 : Hp} (hn : H1.n ≤ H2.n) (hg : ∀ b x, L b = some x → H2.get b = H1.get b ∨ H2.get b = .dead ∨ (BlkRel L R w (H2.get b) x ∧ H1.get b ≠ .dead)) : Sim L R H2 w := by
  have hl : ∀ b x, L b = some x → H2.get b ≠ .dead → H1.get b ≠ .dead := fun b x hb hd => by
    rcases hg b x hb with e | e | e
    · rw [← e]; exact hd
    · exact absurd e hd
    · exact e.2
  refine ⟨fun b x hb => Nat.lt_of_lt_of_le (h.dom b x hb) hn, fun b x hb => ?_, fun b b' x y h1 h2 d1 d2 e => h.inj b b' x y h1 h2 (hl b x h1 d1) (hl b' y h2 d2) e, h.rom, fun b x hb hd o => h.apart b x hb (hl b x hb hd) o⟩
  rcases hg b x hb with e | e | e
  · rw [e]; exact h.blk b x hb
  · rw [e]; trivial
  · exact e.1

theorem Step.swap {L' : Loc} {R' : Rom} {H1 H2 : Hp} {w' : World} (h : Step L R H w L' R' H1 w') (hf : Fr H H2) (hu : ∀ b, b < H.n → L b = none → H2.get b = H.get b) : Step L R H w L' R' H2 w' :=
  ⟨hf, h.ext, h.rext, h.new, hu, h.conc, h.img, h.rnew, h.size, h.os, h.tape, h.output⟩

/-- Values that are told by something. -/
theorem rep_list : ∀ (vs : List Value), (∀ v ∈ vs, ∃ a : AV, a.one = true ∧ VR L R a v) → ∃ as : List AV, VRs L R as vs ∧ ∀ a ∈ as, a.one = true := by
  intro vs
  induction vs with
  | nil => intro _; exact ⟨[], .nil _ _, by simp⟩
  | cons v vs ih =>
    intro h
    obtain ⟨a, ha1, ha2⟩ := h v (by simp)
    obtain ⟨as, hs1, hs2⟩ := ih (fun u hu => h u (by simp [hu]))
    refine ⟨a :: as, .cons ha2 hs1, ?_⟩
    intro x hx
    rcases List.mem_cons.1 hx with rfl | hx
    · exact ha1
    · exact hs2 x hx

theorem insert_sound {f fo T e : Nat} {ei : TI} (hW : InsWalk P f fo T e) (hei : TyRel P e ei) : PrimOk P f (insertP ei) := by
  intro args H r H' h L R w vs hS hV
  rw [hW.call vs w]
  show Calls P f vs w _
  unfold insertP at h
  split at h
  · rename_i args' s i bv offv capv exv
    obtain ⟨sv, vs1, hvs1, hsv, hV1⟩ := hV.inv_cons
    obtain ⟨iv, vs2, rfl, hiv, hV2⟩ := hV1.inv_cons
    obtain ⟨vv, vs3, rfl, hvv, hV3⟩ := hV2.inv_cons
    cases hV3.inv_nil
    have hiv' : iv = .int .i64 (i : Int) := by cases hiv; rfl
    subst hiv'
    have hvs : vs = #[sv, .int .i64 (i : Int), vv] := by
      apply Array.toList_inj.1; rw [hvs1]
    subst hvs
    have hvv0 := hvv
    cases hvv with
    | ref _ _ _ _ _ _ cv ov szv capv' hLv hlv hcv hexv hroomv =>
    split at h
    · rename_i new n hnew hn
      have hsz2 : ei.sz = 2 := by
        simp only [cellsOf] at hnew
        split at hnew
        · rename_i hc; exact hc.1.symm
        · simp at hnew
      split at h
      · -- behind the last one
        rename_i hin
        have hin' : i = n := Nat.eq_of_beq_eq_true hin
        subst hin'
        have done : ∀ base cap, sv = .slice base i cap → appendTo H ei s 1 new = some (r, H') → Calls P f #[sv, .int .i64 (i : Int), .slice (some ⟨cv, ov + offv, none⟩) 1 capv'] w fun e w' => ∃ v, e = .returned v ∧ Post L R H w r H' v w' := by
          intro base cap hsv' ha
          obtain ⟨val, w', h1, h2⟩ := append_sound hS hW.und hW.und (.inl ⟨e, rfl⟩) hei hsv hvv0 (by simp [lenAV]) hnew ha #[T, T] rfl rfl 0
          rw [hsv'] at h1 ⊢
          refine (hW.fin val i base cap cv (ov + offv) capv' w w' (fun ty => h1)).mono ?_
          rintro e w'' ⟨rfl, rfl⟩
          exact ⟨val, rfl, h2⟩
        split at h
        · simp [lenAV] at hn; subst hn
          exact done none 0 (by rw [hsv.nsl_inv]) h
        · simp [lenAV] at hn; subst hn
          rename_i b off len m cap ex
          have hsv0 := hsv
          cases hsv with
          | ref _ _ _ _ _ _ c o sz cap' hL hl hc hex hroom => exact done _ cap' rfl h
        · simp at h
      · -- among the others
        split at h
        · rename_i b off len cap ex
          simp [lenAV] at hn; subst hn
          split at h
          · rename_i cs hcs
            split at h
            · rename_i nw v0 vt
              split at h
              · rename_i hb
                obtain ⟨hin, hn30, _, hzl, hbytes, hbv, hfit, hu8, hzu8⟩ := hb
                have hn : len < 2 ^ 30 := hn30
                split at h
                case h_2 => simp at h
                rename_i K0 k0 kt hk0
                split at h
                case isFalse => simp at h
                rename_i hku8
                generalize hK : (cs.drop off).take (len * 2) = K at h
                simp only [Option.some.injEq, Prod.mk.injEq] at h
                obtain ⟨rfl, rfl⟩ := h
                cases hsv with
                | ref _ _ _ _ _ _ c o sz cap' hL hl hc hex hroom =>
                have hKl : K.length = len * 2 := by rw [← hK]; simp; omega
                have hlive : H.get b ≠ .dead := by rw [hcs]; simp
                obtain ⟨C, t', fr, hC, hCsz, hlc, hfr, hcone, hcells, hrep⟩ := (hcs ▸ hS.blk b _ hL : BlkRel L R w (.cells cs) (c, o, sz))
                simp only at hC hCsz hlc hcells
                have hbn : b < H.n := hS.dom b _ hL
                have hbvn : bv < H.n := hS.dom bv _ hLv
                obtain ⟨vvals, _, hvv1, hvone, hvl⟩ := cellsOf_sound (P := P) hS hvv0 hnew
                rw [hsz2] at hvl
                simp only [Nat.one_mul] at hvl
                have hnewAt : ∀ H2 : Hp, H2.get bv = H.get bv → cellsOf H2 ei.sz 1 (.ref bv offv 1 2 capv exv) = some (v0 :: vt) := by
                  intro H2 h2
                  rw [← hnew]; simp only [cellsOf, h2]
                have hvlive : H.get bv ≠ .dead := by
                  intro hd
                  simp only [cellsOf, hd] at hnew
                  split at hnew <;> cases hnew
                have hccv : c ≠ cv := fun e => hbv (hS.inj b bv _ _ hL hLv hlive hvlive e)
                -- the two rows
                have hKv : ∀ p q, p + q ≤ len → cellsOf H ei.sz q (.ref b (off + p * 2) (len - p) 2 0 false) = some ((K.drop (p * 2)).take (q * 2)) := by
                  intro p q hpq
                  simp only [cellsOf, hsz2, hcs, true_and]
                  rw [if_pos (by omega)]
                  have e1 : ((cs.drop (off + p * 2)).take (q * 2)) = (K.drop (p * 2)).take (q * 2) := by
                    rw [← hK, List.drop_take, List.drop_drop, List.take_take]
                    congr 1; omega
                  rw [e1]
                  rw [if_pos]
                  simp; omega
                have hF : ∀ Y : List AV, (∀ q, q < (len + 1) * 2 → Y[q]? = if q < i * 2 then K[q]? else if q < i * 2 + 2 then (v0 :: vt)[q - i * 2]? else K[q - 2]?) → Y.take ((len + 1) * 2) = K.take (i * 2) ++ v0 :: vt ++ K.drop (i * 2) := by
                  intro Y hY
                  refine List.ext_getElem? fun q => ?_
                  rw [List.getElem?_take]
                  have hvt : vt.length = 1 := by simpa using hvl
                  by_cases hq : q < (len + 1) * 2
                  · rw [if_pos hq, hY q hq]
                    by_cases h1 : q < i * 2
                    · rw [if_pos h1, List.getElem?_append_left (by simp; omega), List.getElem?_append_left (by simp; omega), List.getElem?_take, if_pos h1]
                    · rw [if_neg h1]
                      by_cases h2 : q < i * 2 + 2
                      · rw [if_pos h2, List.getElem?_append_left (by simp; omega), List.getElem?_append_right (by simp; omega)]
                        congr 1; simp; omega
                      · rw [if_neg h2, List.getElem?_append_right (by simp; omega), List.getElem?_drop]
                        congr 1; simp; omega
                  · rw [if_neg hq, List.getElem?_eq_none]
                    simp; omega
                -- the end
                have fin : ∀ (c2 o2 sz2 : Nat) (G : Nat) (L3 : Loc) (R3 : Rom) (H3 : Hp) (w3 : World) (Y : List AV), Sim L3 R3 H3 w3 → Step L R H w L3 R3 H3 w3 → L3 H.n = some (c2, o2, sz2) → H3.n = H.n + 1 → H3.get H.n = .cells Y →
                    (∀ k, k ≠ H.n → k ≠ b → H3.get k = H.get k) → (∀ k x, L3 k = some x → k = H.n ∨ L k = some x) → Y.take ((len + 1) * 2) = K.take (i * 2) ++ v0 :: vt ++ K.drop (i * 2) → len + 1 ≤ G → o2 + G * 2 ≤ sz2 →
                    Post L R H w (.ref H.n 0 (len + 1) 2 (len + 1) false) ((H.put b .dead).push (.cells (K.take (i * 2) ++ v0 :: vt ++ K.drop (i * 2)))) (.slice (some ⟨c2, o2, none⟩) (len + 1) G) w3 := by
                  intro c2 o2 sz2 G L3 R3 H3 w3 Y f1 f2 f3 f4 f5 f6 f7 f8 f9 f10
                  have hget : ∀ k, ((H.put b .dead).push (.cells (K.take (i * 2) ++ v0 :: vt ++ K.drop (i * 2)))).get k = if k = H.n then .cells (K.take (i * 2) ++ v0 :: vt ++ K.drop (i * 2)) else if k = b then .dead else H.get k := by
                    intro k; rw [Hp.get_push, Hp.get_put]; rfl
                  refine ⟨L3, R3, f2.swap ((Fr.put H b .dead hlive).trans (.push _ _)) (fun k hk hk2 => ?_), f1.swap (by simp; omega) (fun k x hk => ?_), .ref H.n 0 (len + 1) 2 (len + 1) false c2 o2 sz2 G f3 f9 f9 (fun h => by cases h) (by omega)⟩
                  · rw [hget, if_neg (by omega), if_neg]
                    rintro rfl; rw [hL] at hk2; cases hk2
                  · rw [hget]
                    by_cases e1 : k = H.n
                    · subst e1
                      rw [if_pos rfl]
                      refine .inr (.inr ⟨?_, by rw [f5]; simp⟩)
                      have := f1.blk _ _ hk
                      rw [f5] at this
                      rw [← f8]
                      exact this.take _
                    · rw [if_neg e1]
                      by_cases e2 : k = b
                      · rw [if_pos e2]; exact .inr (.inl rfl)
                      · rw [if_neg e2]; exact .inl (f6 k e1 e2).symm
                have hk0m : k0 ∈ cs := List.mem_of_mem_drop (by rw [hk0]; simp)
                have hK0 : K[0]? = some k0 := by
                  rw [← hK, hk0, List.getElem?_take, if_pos (by omega)]; rfl
                have hnotU : ∀ (Y : List AV) (x : AV), x ∈ Y → x.isU8 = false → ∀ {p : Prop}, (∀ a ∈ Y, a.isU8 = true) → p := fun Y x hx hu p h => by
                  have := h x hx; rw [hu] at this; cases this
                have hfr1 : fr.1 = fr.2 := hfr.elim id fun h => hnotU cs k0 hk0m hku8 h.2
                have hsize : ∀ w, (Go.sizeOf e).run P w = .ok 2 w := fun w => by have := hei.run_size w; rwa [hsz2] at this
                by_cases hroom1 : len + 1 ≤ cap'
                · -- in place
                  have hroom' : o + off + cap' * 2 ≤ C.size := by rw [hCsz]; exact hroom
                  obtain ⟨Z, hZ1, hZ2⟩ := rep_list (L := L) (R := R) ((C.toList.drop (o + off + len * 2)).take ((cap' - len) * 2)) (fun v hv => by
                    obtain ⟨j, hj, e⟩ := List.mem_iff_getElem.1 (List.mem_of_mem_drop (List.mem_of_mem_take hv))
                    exact hrep j v (by rw [← e]; simp at hj; simp [hj]))
                  have hZl : Z.length = (cap' - len) * 2 := by rw [hZ1.1]; simp; omega
                  have hX : BlkRel L R w (.cells (K ++ Z)) (c, o + off, sz) := by
                    refine ⟨C, t', fr, hC, hCsz, by simp [hKl, hZl]; omega, .inl hfr1, fun a ha => ?_, fun j a ha => ?_, hrep⟩
                    · rcases List.mem_append.1 ha with ha | ha
                      · rw [← hK] at ha; exact hcone a (List.mem_of_mem_drop (List.mem_of_mem_take ha))
                      · exact hZ2 a ha
                    · by_cases hj : j < len * 2
                      · rw [List.getElem?_append_left (by omega), ← hK, List.getElem?_take, if_pos hj, List.getElem?_drop] at ha
                        obtain ⟨v, e1, e2⟩ := hcells _ a ha
                        exact ⟨v, by rw [← e1]; congr 1; simp only; omega, e2⟩
                      · rw [List.getElem?_append_right (by omega), hKl] at ha
                        obtain ⟨v, e1, e2⟩ := hZ1.get ha
                        rw [List.getElem?_take] at e1
                        split at e1
                        · rw [List.getElem?_drop, Array.getElem?_toList] at e1
                          exact ⟨v, by rw [← e1]; congr 1; simp only; omega, e2⟩
                        · cases e1
                  obtain ⟨L1, s1, s2, s3, s4, s5⟩ := review_sound hS hL hlive hX
                  generalize hH1 : (H.put b .dead).push (.cells (K ++ Z)) = H1 at s1 s2
                  have hg1 : ∀ k, H1.get k = if k = H.n then .cells (K ++ Z) else if k = b then .dead else H.get k := by
                    intro k; rw [← hH1, Hp.get_push, Hp.get_put]; rfl
                  have hn1 : H1.n = H.n + 1 := by rw [← hH1]; rfl
                  have hH1N : H1.get H.n = .cells (K ++ Z) := by rw [hg1, if_pos rfl]
                  have hvr1 : VR L1 R (.ref H.n (i * 2) (len + 1 - i) 2 0 false) (.slice (some ⟨c, o + off + i * 2, none⟩) (len + 1 - i) (cap' - i)) :=
                    .ref _ _ _ _ _ _ c (o + off) sz (cap' - i) s3 (by omega) (Nat.zero_le _) (fun h => by cases h) (by omega)
                  have hc1 : cellsOf H1 2 (len - i) (.ref H.n (i * 2) (len + 1 - i) 2 0 false) = some (K.drop (i * 2)) := by
                    simp only [cellsOf, hH1N, true_and]
                    rw [if_pos (by omega)]
                    have e1 : ((K ++ Z).drop (i * 2)).take ((len - i) * 2) = K.drop (i * 2) := by
                      rw [List.drop_append_of_le_length (by omega), List.take_append_of_le_length (by simp; omega), List.take_of_length_le (by simp; omega)]
                    rw [e1, if_pos]
                    simp; omega
                  obtain ⟨vals1, g1, g2, g3, g4⟩ := cellsOf_sound (P := P) (drew_sim s1) hvr1 hc1
                  obtain ⟨W1, r1, r2, r3⟩ := copy_sound (drew_sim s1) hW.und hei s3 (off := (i + 1) * 2) (len := len - i) (base2 := some ⟨c, o + off + i * 2, none⟩) (sn := len + 1 - i) (n := len - i)
                    (by simp only [Nat.min_def]; split <;> omega) (fun w1 sc h => by rw [hsz2]; exact g1 w1 h) g2 g3 (by rw [g4, hsz2]) hH1N (by rw [hsz2]; simp [hKl, hZl]; omega)
                    (hnotU _ k0 (List.mem_append_left _ (List.mem_of_getElem? hK0)) hku8)
                  generalize hY1 : overwrite (K ++ Z) ((i + 1) * 2) (K.drop (i * 2)) = Y1 at r2 r3
                  have hfit1 : (i + 1) * 2 + (K.drop (i * 2)).length ≤ (K ++ Z).length := by simp [hKl, hZl]; omega
                  have hY1l : Y1.length = cap' * 2 := by rw [← hY1, overwrite_length hfit1]; simp [hKl, hZl]; omega
                  have hY1g : ∀ q, Y1[q]? = if (i + 1) * 2 ≤ q ∧ q < (i + 1) * 2 + (len - i) * 2 then K[q - 2]? else (K ++ Z)[q]? := by
                    intro q
                    rw [← hY1, overwrite_get hfit1]
                    have hdl : (K.drop (i * 2)).length = (len - i) * 2 := by simp; omega
                    rw [hdl]
                    by_cases h1 : (i + 1) * 2 ≤ q ∧ q < (i + 1) * 2 + (len - i) * 2
                    · rw [if_pos h1, if_pos h1, List.getElem?_drop]; congr 1; omega
                    · rw [if_neg h1, if_neg h1]
                  have hg2 : ∀ k, (H1.put H.n (.cells Y1)).get k = if k = H.n then .cells Y1 else if k = b then .dead else H.get k := by
                    intro k; rw [Hp.get_put, hg1]; by_cases e : k = H.n <;> simp [e]
                  have hb2 : (H1.put H.n (.cells Y1)).get bv = H.get bv := by rw [hg2, if_neg (by omega), if_neg (fun e => hbv e.symm)]
                  obtain ⟨vals2, p1, p2, p3, p4⟩ := cellsOf_sound (P := P) r2 (hvv0.mono s4 (fun _ _ _ h => h)) (hnewAt _ hb2)
                  obtain ⟨W2, t1, t2, t3⟩ := copy_sound r2 hW.und hei s3 (off := i * 2) (len := len + 1 - i) (base2 := some ⟨cv, ov + offv, none⟩) (sn := 1) (n := 1)
                    (by simp only [Nat.min_def]; split <;> omega) (fun w1 sc h => p1 w1 h) p2 p3 p4 (by rw [hg2, if_pos rfl]) (by rw [hsz2, hY1l]; omega)
                    (hnotU _ k0 (List.mem_of_getElem? (i := 0) (by rw [hY1g, if_neg (by omega), List.getElem?_append_left (by omega)]; exact hK0)) hku8)
                  have hov : ∀ lb cb, (callFunc fo #[.slice (some ⟨cv, ov + offv, none⟩) 1 capv', .slice (some ⟨c, o + off + (i + 1) * 2, none⟩) lb cb]).run P w = .ok (.value (.bool false)) w := by
                    intro lb cb
                    have hcsv : ∃ csv, H.get bv = .cells csv ∧ v0 ∈ csv := by
                      simp only [cellsOf] at hnew
                      split at hnew
                      · split at hnew
                        · rename_i csv hcsv
                          split at hnew
                          · simp only [Option.some.injEq] at hnew
                            exact ⟨csv, hcsv, List.mem_of_mem_drop (List.mem_of_mem_take (i := 1 * ei.sz) (by rw [hnew]; simp))⟩
                          · cases hnew
                        · cases hnew
                      · cases hnew
                    obtain ⟨csv, hcsv, hv0⟩ := hcsv
                    obtain ⟨Cv, tv, frv, hCv, _, _, hfrv, _⟩ := (hcsv ▸ hS.blk bv _ hLv : BlkRel L R w (.cells csv) (cv, ov, szv))
                    simp only at hCv
                    have hfrv1 : frv.1 = frv.2 := hfrv.elim id fun h => hnotU csv v0 hv0 hu8 h.2
                    rw [hW.over, Lib.run_overlaps_apart w T 4 e hW.und 2 hsize ⟨cv, ov + offv, none⟩ ⟨c, o + off + (i + 1) * 2, none⟩ 1 capv' lb cb (fun h => hccv h.symm) tv t' Cv.size C.size
                      (by simp only [World.shape?, hCv]) (by simp only [World.shape?, hC]) (by omega) (frozen_of hCv _ (by omega)) (frozen_of hCv _ (by omega))]
                    rfl
                  refine (hW.shift c (o + off) len cap' i cv (ov + offv) capv' _ _ w W1 W2 hin hroom1 (by omega) r1 (fun ty dc => t1 ty dc capv') hov).mono ?_
                  rintro ee w'' ⟨rfl, rfl⟩
                  have hfit2 : i * 2 + (v0 :: vt).length ≤ Y1.length := by rw [hvl, hY1l]; omega
                  refine ⟨_, rfl, fin c (o + off) sz cap' L1 R _ _ (overwrite Y1 (i * 2) (v0 :: vt)) t2 (s2.trans hS.dom ((drew_step s1).trans s1.dom (r3.trans s1.dom t3))) s3 (by rw [Hp.n_put, Hp.n_put, hn1]) (by rw [Hp.get_put, if_pos rfl])
                    (fun k h1 h2 => by rw [Hp.get_put, if_neg h1, hg2, if_neg h1, if_neg h2]) (fun k x hk => by
                      by_cases e : k = H.n
                      · exact .inl e
                      · rw [s5 k e] at hk; exact .inr hk) (hF _ fun q hq => ?_) hroom1 hroom⟩
                  rw [overwrite_get hfit2, hvl, hY1g]
                  by_cases h1 : q < i * 2
                  · rw [if_neg (by omega), if_pos h1, if_neg (by omega), List.getElem?_append_left (by omega)]
                  · rw [if_neg h1]
                    by_cases h2 : q < i * 2 + 2
                    · rw [if_pos ⟨by omega, h2⟩, if_pos h2]
                    · rw [if_neg (by omega), if_neg h2, if_pos ⟨by omega, by omega⟩]
                · -- a new row
                  obtain ⟨i0, hi0, his, hib, z, hz0, hzc, _⟩ := hei.info
                  obtain ⟨q1, q2⟩ := VRs.ofCells (L := L) (R := R) hzc
                  have hzs : z.cells.size = 2 := by have := q1.1; simp at this; omega
                  obtain ⟨k, hk⟩ : ∃ k, k = len + 1 - i := ⟨_, rfl⟩
                  have hik : i + k = len + 1 := by omega
                  -- what stood ahead
                  have hvr0 : VR L R (.ref b off i 2 0 false) (.slice (some ⟨c, o + off, none⟩) i cap') := .ref _ _ _ _ _ _ c o sz cap' hL (by omega) (Nat.zero_le _) (fun h => by cases h) hroom
                  have hc0 : cellsOf H 2 i (.ref b off i 2 0 false) = some (K.take (i * 2)) := by
                    simp only [cellsOf, hcs, true_and]
                    rw [if_pos (Nat.le_refl _)]
                    have e1 : (cs.drop off).take (i * 2) = K.take (i * 2) := by rw [← hK, List.take_take]; congr 1; omega
                    rw [e1, if_pos]
                    simp; omega
                  obtain ⟨olds, g1, g2, g3, g4⟩ := cellsOf_sound (P := P) hS hvr0 hc0
                  have hnx := nextslicecap_le (need := len + 1) (cap := cap') (by omega)
                  have hbm : ∀ x, x ≤ 8 * (len + 1) + 4096 → x * i0.bytes ≤ 281474976710656 := by
                    intro x hx
                    have h1 : i0.bytes ≤ 1024 := by rw [hib]; omega
                    calc x * i0.bytes ≤ (8 * (len + 1) + 4096) * 1024 := Nat.mul_le_mul hx h1
                      _ ≤ 281474976710656 := by omega
                  have hap := Lib.run_append_grow_zeros (P := P) w T 3 0 e i0 z .i64 .i64 hW.und hW.und3 hi0 hz0 (some ⟨c, o + off, none⟩) i cap' olds (by rw [his, hsz2]; exact g1 w.drew rfl) k (by omega) (by omega) (by omega) (by omega)
                    (hbm k (by omega)) (by rw [hik]; exact hbm _ hnx)
                  rw [hik] at hap
                  obtain ⟨G, hG⟩ : ∃ G, G = grownCap w (len + 1) cap' e := ⟨_, rfl⟩
                  have hGe : len + 1 ≤ G := by rw [hG]; exact grownCap_ge w _ _ _
                  rw [← hG] at hap
                  obtain ⟨ARR, hARR⟩ : ∃ ARR, ARR = olds.toArray ++ Builtin.zeroCells z.cells k ++ Builtin.zeroCells z.cells (G - (len + 1)) := ⟨_, rfl⟩
                  rw [← hARR] at hap
                  have hol : olds.length = i * 2 := by rw [← g2.1, g4]
                  have hAs : ARR.size = G * 2 := by rw [hARR]; simp [zeroCells_one, hzs, hol]; omega
                  have hzr : VRs L R (repeatCells ei.zero k) (Builtin.zeroCells z.cells k).toList := zeros_sound q1 k _ (by rw [hzs, hzl])
                  have hzrl : (repeatCells ei.zero k).length = k * 2 := by rw [repeat_length, hzl]
                  have hX : BlkRel L R (w.drew.alloc (.cells ARR e)) (.cells (K.take (i * 2) ++ repeatCells ei.zero k)) (w.heap.size, 0, G * 2) := by
                    refine ⟨ARR, e, (0, 0), alloc_new w.drew _, hAs, by rw [hAs]; simp [hzrl, hKl]; omega, .inl rfl, fun a ha => ?_, fun j a ha => ?_, fun j v hj => ?_⟩
                    · rcases List.mem_append.1 ha with ha | ha
                      · exact g3 a ha
                      · exact repeat_one q2 k a ha
                    · obtain ⟨v, e1, e2⟩ := (g2.append hzr).get ha
                      refine ⟨v, ?_, e2⟩
                      have hjl := (List.getElem?_eq_some_iff.1 e1).1
                      simp only [Nat.zero_add]
                      rw [hARR, Array.getElem?_append_left (by simpa using hjl)]
                      have : (olds.toArray ++ Builtin.zeroCells z.cells k)[j]? = (olds ++ (Builtin.zeroCells z.cells k).toList)[j]? := by
                        rw [← Array.getElem?_toList]; simp
                      rw [this]; exact e1
                    · rw [hARR, Array.getElem?_append] at hj
                      split at hj
                      · rw [Array.getElem?_append] at hj
                        split at hj
                        · exact g2.rep g3 (by simpa using hj)
                        · exact zeroCells_rep q1 q2 hj
                      · exact zeroCells_rep q1 q2 hj
                  obtain ⟨L1, s1, s2, s3, s4⟩ := new_sound hS (by rw [alloc_size]; exact Nat.le_refl _) (fun c hc => alloc_get w.drew _ c hc) rfl rfl rfl hX
                  generalize hXX : K.take (i * 2) ++ repeatCells ei.zero k = X at s1 s2
                  have hXl : X.length = (len + 1) * 2 := by rw [← hXX]; simp [hzrl, hKl]; omega
                  have hzm : ∃ z0 ∈ X, z0.isU8 = false := by
                    obtain ⟨z0, hz0m, hz0u⟩ : ∃ z0 ∈ ei.zero, z0.isU8 = false := by
                      clear hzl q1 q2 hzr hzrl hX hzc hXX
                      revert hzu8
                      generalize ei.zero = l
                      induction l with
                      | nil => intro h; cases h
                      | cons x l ih =>
                        intro h
                        unfold allU8 at h
                        split at h
                        · obtain ⟨y, hy, hy2⟩ := ih h; exact ⟨y, by simp [hy], hy2⟩
                        · rename_i hx; exact ⟨x, by simp, hx⟩
                    refine ⟨z0, ?_, hz0u⟩
                    rw [← hXX]
                    refine List.mem_append_right _ ?_
                    obtain ⟨k', rfl⟩ : ∃ k', k = k' + 1 := ⟨k - 1, by omega⟩
                    simp only [repeatCells, List.mem_append]
                    exact .inl hz0m
                  generalize hH1 : H.push (.cells X) = H1 at s1 s2
                  have hg1 : ∀ q, H1.get q = if q = H.n then .cells X else H.get q := by intro q; rw [← hH1, Hp.get_push]
                  have hn1 : H1.n = H.n + 1 := by rw [← hH1]; rfl
                  have hb1 : H1.get bv = H.get bv := by rw [hg1, if_neg (by omega)]
                  obtain ⟨vals1, p1, p2, p3, p4⟩ := cellsOf_sound (P := P) s1 (hvv0.mono s4 (fun _ _ _ h => h)) (hnewAt _ hb1)
                  obtain ⟨z0, hz0m, hz0u⟩ := hzm
                  obtain ⟨W2, r1, r2, r3⟩ := copy_sound s1 hW.und hei s3 (off := i * 2) (len := len + 1 - i) (base2 := some ⟨cv, ov + offv, none⟩) (sn := 1) (n := 1)
                    (by simp only [Nat.min_def]; split <;> omega) (fun w1 sc h => p1 w1 h) p2 p3 p4 (by rw [hg1, if_pos rfl]) (by rw [hsz2, hXl]; omega) (hnotU _ z0 hz0m hz0u)
                  have hfit1 : i * 2 + (v0 :: vt).length ≤ X.length := by rw [hvl, hXl]; omega
                  generalize hY1 : overwrite X (i * 2) (v0 :: vt) = Y1 at r2 r3
                  have hY1l : Y1.length = (len + 1) * 2 := by rw [← hY1, overwrite_length hfit1, hXl]
                  have hY1g : ∀ q, Y1[q]? = if i * 2 ≤ q ∧ q < i * 2 + 2 then (v0 :: vt)[q - i * 2]? else X[q]? := by
                    intro q; rw [← hY1, overwrite_get hfit1, hvl]
                  have hv0m : v0 ∈ Y1 := List.mem_of_getElem? (i := i * 2) (by rw [hY1g, if_pos ⟨Nat.le_refl _, by omega⟩]; simp)
                  have hg2 : ∀ q, (H1.put H.n (.cells Y1)).get q = if q = H.n then .cells Y1 else H.get q := by
                    intro q; rw [Hp.get_put, hg1]; by_cases e : q = H.n <;> simp [e]
                  -- what stood from there on
                  have hvr2 : VR L1 R (.ref b (off + i * 2) (len - i) 2 0 false) (.slice (some ⟨c, o + (off + i * 2), none⟩) (len - i) (cap' - i)) :=
                    .ref _ _ _ _ _ _ c o sz (cap' - i) (s4 _ _ hL) (by omega) (Nat.zero_le _) (fun h => by cases h) (by omega)
                  have hc2 : cellsOf (H1.put H.n (.cells Y1)) ei.sz (len - i) (.ref b (off + i * 2) (len - i) 2 0 false) = some (K.drop (i * 2)) := by
                    have e1 : cellsOf (H1.put H.n (.cells Y1)) ei.sz (len - i) (.ref b (off + i * 2) (len - i) 2 0 false) = cellsOf H ei.sz (len - i) (.ref b (off + i * 2) (len - i) 2 0 false) := by
                      simp only [cellsOf, hg2, if_neg (show b ≠ H.n by omega)]
                    rw [e1, hKv i (len - i) (by omega), List.take_of_length_le (by simp; omega)]
                  obtain ⟨vals2, t1, t2, t3, t4⟩ := cellsOf_sound (P := P) (drew_sim r2) hvr2 hc2
                  obtain ⟨W3, u1, u2, u3⟩ := copy_sound (drew_sim r2) hW.und hei s3 (off := (i + 1) * 2) (len := len - i) (base2 := some ⟨c, o + (off + i * 2), none⟩) (sn := len - i) (n := len - i)
                    (by simp) (fun w1 sc h => t1 w1 h) t2 t3 t4 (by rw [hg2, if_pos rfl]) (by rw [hsz2, hY1l]; omega) (hnotU _ v0 hv0m hu8)
                  rw [Nat.zero_add] at r1 u1
                  refine (hW.grow c (o + off) len cap' i cv (ov + offv) capv' w.heap.size G _ _ w _ W2 W3 hin hroom1 (by omega) (by omega) hGe (fun ty => ?_) (fun ty dc => r1 ty dc capv') (fun ty dc sc => by rw [Nat.add_assoc]; exact u1 ty dc sc)).mono ?_
                  · have e1 : ((len : Int) + 1 - (i : Int)) = (k : Int) := by omega
                    rw [e1]; exact hap
                  rintro ee w'' ⟨rfl, rfl⟩
                  have hdl : (K.drop (i * 2)).length = (len - i) * 2 := by simp; omega
                  have hfit2 : (i + 1) * 2 + (K.drop (i * 2)).length ≤ Y1.length := by rw [hdl, hY1l]; omega
                  refine ⟨_, rfl, fin w.heap.size 0 (G * 2) G L1 R _ _ (overwrite Y1 ((i + 1) * 2) (K.drop (i * 2))) u2 (s2.trans hS.dom (r3.trans s1.dom ((drew_step r2).trans r2.dom u3))) s3 (by rw [Hp.n_put, Hp.n_put, hn1]) (by rw [Hp.get_put, if_pos rfl])
                    (fun q h1 h2 => by rw [Hp.get_put, if_neg h1, hg2, if_neg h1]) (fun q x hq => ?_) (hF _ fun q hq => ?_) hGe (by omega)⟩
                  · rcases s2.new q x hq with h | h
                    · exact .inr h
                    · left
                      have := s1.dom q x hq
                      omega
                  · rw [overwrite_get hfit2, hdl, hY1g]
                    by_cases h1 : q < i * 2
                    · rw [if_neg (by omega), if_neg (by omega), if_pos h1, ← hXX, List.getElem?_append_left (by simp; omega), List.getElem?_take, if_pos h1]
                    · rw [if_neg h1]
                      by_cases h2 : q < i * 2 + 2
                      · rw [if_neg (by omega), if_pos ⟨by omega, h2⟩, if_pos h2]
                      · rw [if_pos ⟨by omega, by omega⟩, if_neg h2, List.getElem?_drop]; congr 1; omega
              · simp at h
            · simp at h
          · simp at h
        · simp at h
    · simp at h
  · simp at h

end Go.Ab
