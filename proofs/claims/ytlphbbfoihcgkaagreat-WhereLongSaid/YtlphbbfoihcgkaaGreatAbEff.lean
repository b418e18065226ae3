/- Part of the proof over the seat YtlphbbfoihcgkaaGreat: AbEff. No conditions of its own. -/
import Derived.Test.YtlphbbfoihcgkaaGreatAbAppend
namespace Go.Ab
variable {P : Program} {L : Loc} {R : Rom} {H H' : Hp} {w : World} {E : Env} {call : CallF} {env : Tr AV} {ρ : Operand → Value} {o : Oper}

/-- What a run of an operation comes to. -/
def RunsTo (P : Program) (r : Result Next) (K : Value → World → Prop) : Prop :=
  match r with
  | .ok (.value v) w => K v w
  | .ok .skip w => K undef w
  | .ok (.enter f args) w => Calls P f args w fun e w' => ∃ v, e = .returned v ∧ K v w'
  | _ => False

/-- What is told of a call is so. -/
def CallOk (P : Program) (call : CallF) : Prop :=
  ∀ f args H r H', call f args H = some (r, H') → ∀ L R w (vs : Array Value), Sim L R H w → VRs L R args vs.toList →
    RunsTo P ((callFunc f vs).run P w) (Post L R H w r H')

/-- A block is not asked any more. -/
theorem kill_sound (hS : Sim L R H w) {b : Nat} (hl : H.get b ≠ .dead) (hm : ∃ x, L b = some x) : Sim L R (H.put b .dead) w ∧ Step L R H w L R (H.put b .dead) w := by
  refine ⟨⟨fun b' q hq => by simpa using hS.dom b' q hq, fun b' q hq => ?_, fun b1 b2 q1 q2 h1 h2 d1 d2 e => ?_, hS.rom, fun b' q hq hd o' => ?_⟩, ?_⟩
  · rw [Hp.get_put]
    by_cases hb : b' = b
    · rw [if_pos hb]; trivial
    · rw [if_neg hb]; exact hS.blk b' q hq
  · rw [Hp.get_put] at d1 d2
    have l1 : H.get b1 ≠ .dead := by by_cases hb : b1 = b <;> simp_all
    have l2 : H.get b2 ≠ .dead := by by_cases hb : b2 = b <;> simp_all
    exact hS.inj b1 b2 q1 q2 h1 h2 l1 l2 e
  · rw [Hp.get_put] at hd
    have l1 : H.get b' ≠ .dead := by by_cases hb : b' = b <;> simp_all
    exact hS.apart b' q hq l1 o'
  · refine ⟨.put H b .dead hl, fun _ _ h => h, fun _ _ _ h => h, fun _ _ h => .inl h, fun b' hb' hn => ?_, fun _ _ _ => rfl, fun _ _ h => .inl h, fun _ _ _ h => .inl h, Nat.le_refl _, rfl, rfl, rfl⟩
    rw [Hp.get_put, if_neg]
    rintro rfl; obtain ⟨x, hx⟩ := hm; rw [hx] at hn; cases hn

theorem append_rep {as bs : List AV} {us vs : List Value} {rest : Array Value} (ha : VRs L R as us) (ho : ∀ a ∈ as, a.one = true) (hb : VRs L R bs vs) (ho2 : ∀ a ∈ bs, a.one = true)
    (hr : ∀ (j : Nat) (v : Value), rest[j]? = some v → ∃ a, a.one = true ∧ VR L R a v) {j : Nat} {v : Value} (h : (us.toArray ++ vs.toArray ++ rest)[j]? = some v) : ∃ a, a.one = true ∧ VR L R a v := by
  rw [Array.getElem?_append] at h
  split at h
  · rw [Array.getElem?_append] at h
    split at h
    · exact ha.rep ho (by simpa using h)
    · exact hb.rep ho2 (by simpa using h)
  · exact hr _ _ h

theorem append_sound (hS : Sim L R H w) {t0 t1 e : Nat} (hd : P.underlying t0 = some (.slice e)) {d1 : TypeDesc} (hd1 : P.underlying t1 = some d1) (hi1 : (∃ e', d1 = .slice e') ∨ d1 = .string)
    {ei : TI} (hei : TyRel P e ei) {dst src : AV} {dv sv : Value} (hdv : VR L R dst dv) (hsv : VR L R src sv) {n : Nat} (hn : lenAV H src = some n) {new : List AV} (hnew : cellsOf H ei.sz n src = some new)
    {v : AV} (h : appendTo H ei dst n new = some (v, H')) (tys : Array TypeId) (h0 : tys[0]? = some t0) (h1 : tys[1]? = some t1) (ty : TypeId) :
    ∃ val w', (Builtin.append_ tys ty #[dv, sv]).run P w = .ok val w' ∧ Post L R H w v H' val w' := by
  obtain ⟨vs, hx, hvs, hvone, hvlen⟩ := cellsOf_sound (P := P) hS hsv hnew
  have hlen := lenOf_sound (P := P) (w := w) hsv hn hnew
  unfold appendTo at h
  split at h
  · -- nil
    rw [hdv.nsl_inv]
    split at h
    · simp at h; obtain ⟨rfl, rfl⟩ := h
      exact ⟨_, w, append_room hd hd1 hi1 hei hlen (hx w rfl) (Nat.le_refl _) (w' := w) (fun a ha => by cases ha) (fun _ => rfl) tys h0 h1 ty, L, R, .refl _ _ _ _, hS, .nsl⟩
    · rename_i hn0
      split at h
      · rename_i hb
        obtain ⟨hb1, hb2, hb3⟩ := hb
        simp at h; obtain ⟨rfl, rfl⟩ := h
        have hpos : 0 < n := Nat.pos_of_ne_zero hn0
        have hcap0 : Builtin.nextslicecap (0 + n) 0 = n := by simp [Builtin.nextslicecap]; omega
        obtain ⟨cap', rest, hc', hrest, hrr, hrun⟩ := append_grow (L := L) (R := R) (us := []) (base := none) (len := 0) (cap := 0) hd hd1 hi1 hei hb3 hlen (by omega) (by omega) (by rw [hcap0]; exact hb2) hx
          (fun w1 _ => by simp [Builtin.firstCells]) tys h0 h1 ty
        refine ⟨_, _, hrun, ?_⟩
        have hsz : (([] : List Value).toArray ++ vs.toArray ++ rest).size = cap' * ei.sz := by
          have := hvs.1
          simp [hrest]; rw [← this, hvlen, ← Nat.add_mul]; congr 1; omega
        have hblk : BlkRel L R (w.drew.alloc (.cells (([] : List Value).toArray ++ vs.toArray ++ rest) e)) (.cells new) (w.heap.size, 0, cap' * ei.sz) := by
          refine ⟨_, e, (0, 0), alloc_new w.drew _, hsz, ?_, .inl rfl, hvone, fun j a ha => ?_, fun j v hjv => append_rep (.nil _ _) (by simp) hvs hvone hrr hjv⟩
          · rw [hsz, Nat.zero_add, hvlen]; exact Nat.mul_le_mul_right _ (by omega)
          · obtain ⟨u, e1, e2⟩ := hvs.get ha
            refine ⟨u, ?_, e2⟩
            have hj : j < vs.length := (List.getElem?_eq_some_iff.1 e1).1
            simp only [Nat.zero_add]
            rw [Array.getElem?_append_left (by simpa using hj)]
            simpa using e1
        obtain ⟨L', g1, g2, g3, g4⟩ := new_sound hS (by rw [alloc_size]; exact Nat.le_refl _) (fun c hc => alloc_get w.drew _ c hc) rfl rfl rfl hblk
        exact ⟨L', R, g2, g1, by rw [Nat.zero_add]; exact .ref H.n 0 n ei.sz n false w.heap.size 0 _ cap' g3 (by omega) (by omega) (fun h => by cases h) (by omega)⟩
      · simp at h
  · -- its own
    rename_i b off len m cap ex
    cases hdv with
    | ref _ _ _ _ _ _ c o' sz cap' hL hl hc hex hroom =>
    split at h
    · -- nothing is appended
      split at h
      · rename_i hm
        simp at h; obtain ⟨rfl, rfl⟩ := h
        have hvs0 : vs = [] := List.length_eq_zero_iff.1 (by rw [← hvs.1, hvlen, Nat.zero_mul])
        subst hvs0
        refine ⟨_, w, append_room hd hd1 hi1 hei hlen (hx w rfl) (by omega) (w' := w) (fun a ha => by simp [storeCells]) (fun _ => rfl) tys h0 h1 ty, L, R, .refl _ _ _ _, hS, ?_⟩
        exact .ref b off len m cap ex c o' sz cap' hL hl hc hex hroom
      · simp at h
    · rename_i hn0
      have hpos : 0 < n := Nat.pos_of_ne_zero hn0
      split at h
      · rename_i cs hcs
        split at h
        · rename_i hm
          obtain ⟨rfl, hz⟩ := hm
          have hB := hS.blk b _ hL
          rw [hcs] at hB
          obtain ⟨C, t', fr, hC, hCsz, hlc, hfr, hcone, hcells, hrep⟩ := hB
          simp only at hC hCsz hlc hcells
          -- the old cells
          have hold : ∀ q, off + q ≤ cs.length → ∀ k, k = q → ∃ us : List Value, us.length = q ∧ VRs L R ((cs.drop off).take q) us ∧ ∀ w1 : World, w1.heap = w.heap → (loadCells ⟨c, o' + off, none⟩ k).run P w1 = .ok us.toArray w1 := by
            intro q hq k hk
            subst hk
            obtain ⟨us, e1, e2⟩ := exists_list (fun j v => w.cell? ⟨c, o' + off + j, none⟩ = some v ∧ ∀ a, ((cs.drop off).take k)[j]? = some a → VR L R a v) k (fun j hj => by
              have hq2 : ((cs.drop off).take k)[j]? = cs[off + j]? := by
                rw [List.getElem?_take, if_pos hj, List.getElem?_drop]
              have hlt : off + j < cs.length := by omega
              obtain ⟨v, e1, e2⟩ := hcells (off + j) _ (List.getElem?_eq_getElem hlt)
              refine ⟨v, by rw [cell_of hC, Nat.add_assoc]; exact e1, fun a ha => ?_⟩
              rw [hq2, List.getElem?_eq_getElem hlt] at ha
              cases ha; exact e2)
            refine ⟨us, e1, ⟨by simp; omega, fun j a v ha hv => (e2 j v hv).2 a ha⟩, fun w1 hw1 => run_loadCells_of e1 (fun j v hv => by rw [cell_heap hw1]; exact (e2 j v hv).1)⟩
          split at h
          · -- there is room for sure
            rename_i hr1
            split at h
            · rename_i hr2
              obtain ⟨hr2, hu⟩ := hr2
              simp at h; obtain ⟨rfl, rfl⟩ := h
              have hfit : off + len * ei.sz + new.length ≤ cs.length := by
                rw [hvlen]
                have : len * ei.sz + n * ei.sz ≤ cap * ei.sz := by rw [← Nat.add_mul]; exact Nat.mul_le_mul_right _ hr1
                omega
              obtain ⟨w', e1, e2, e3⟩ := write_sound P hS hL hcs hvs hvone hfit (u8ok_spec hu)
              refine ⟨_, w', append_room hd hd1 hi1 hei hlen (hx w rfl) (by omega) (w' := w') (fun a ha => ?_) (fun h => by cases h) tys h0 h1 ty, L, R, e3, e2, ?_⟩
              · cases ha; rw [add_none, Nat.add_assoc]; exact e1
              · exact .ref b off (len + n) ei.sz cap ex c o' sz cap' hL (by omega) hc hex hroom
            · simp at h
          · rename_i hr1
            split at h
            · rename_i hbnd
              obtain ⟨hb1, hb2, hb3⟩ := hbnd
              have hnext : ∀ k, k < len + n → Builtin.nextslicecap (len + n) k * ei.bytes ≤ 2 ^ 48 := by
                intro k hk
                have h1 := Nat.mul_le_mul_right ei.bytes (nextslicecap_le hk)
                have h2 : (8 * (len + n) + 4096) * ei.bytes = 8 * ((len + n) * ei.bytes) + 4096 * ei.bytes := by
                  rw [Nat.add_mul, Nat.mul_assoc]
                omega
              -- a new row
              have hgrow : ∀ H0, Sim L R H0 w → H0.n = H.n → off + len * ei.sz ≤ cs.length → ¬ len + n ≤ cap' → ∃ val w', (Builtin.append_ tys ty #[.slice (some ⟨c, o' + off, none⟩) len cap', sv]).run P w = .ok val w' ∧
                  Post L R H0 w (.ref H.n 0 (len + n) ei.sz (len + n) false) (H0.push (.cells ((cs.drop off).take (len * ei.sz) ++ new))) val w' := by
                intro H0 hS0 hH0 hfit hno
                obtain ⟨us, u1, u2, u3⟩ := hold (len * ei.sz) hfit _ rfl
                obtain ⟨cap2, rest, hc2, hrest, hrr, hrun⟩ := append_grow (L := L) (R := R) (us := us) (base := some ⟨c, o' + off, none⟩) (len := len) (cap := cap') hd hd1 hi1 hei hz hlen hno (by omega) (hnext cap' (by omega)) hx
                  (fun w1 hw1 => by simp only [Builtin.firstCells]; exact u3 w1 hw1) tys h0 h1 ty
                refine ⟨_, _, hrun, ?_⟩
                have hsz : (us.toArray ++ vs.toArray ++ rest).size = cap2 * ei.sz := by
                  have := hvs.1
                  simp [hrest, u1]; rw [← this, hvlen, ← Nat.add_mul, ← Nat.add_mul]; congr 1; omega
                have hone2 : ∀ a ∈ (cs.drop off).take (len * ei.sz) ++ new, a.one = true := by
                  intro a ha
                  rcases List.mem_append.1 ha with ha | ha
                  · exact hcone a (List.mem_of_mem_drop (List.mem_of_mem_take ha))
                  · exact hvone a ha
                have hall := u2.append hvs
                have hblk : BlkRel L R (w.drew.alloc (.cells (us.toArray ++ vs.toArray ++ rest) e)) (.cells ((cs.drop off).take (len * ei.sz) ++ new)) (w.heap.size, 0, cap2 * ei.sz) := by
                  refine ⟨_, e, (0, 0), alloc_new w.drew _, hsz, ?_, .inl rfl, hone2, fun j a ha => ?_, fun j v hjv => append_rep u2 (fun a ha => hcone a (List.mem_of_mem_drop (List.mem_of_mem_take ha))) hvs hvone hrr hjv⟩
                  · rw [hsz, Nat.zero_add, hall.1]
                    have := hvs.1
                    simp [u1]; rw [← this, hvlen, ← Nat.add_mul]; exact Nat.mul_le_mul_right _ hc2
                  · obtain ⟨u, e1, e2⟩ := hall.get ha
                    refine ⟨u, ?_, e2⟩
                    have hj : j < (us ++ vs).length := (List.getElem?_eq_some_iff.1 e1).1
                    simp only [Nat.zero_add]
                    rw [Array.getElem?_append_left (by simpa using hj)]
                    simpa using e1
                obtain ⟨L', g1, g2, g3, g4⟩ := new_sound hS0 (by rw [alloc_size]; exact Nat.le_refl _) (fun c hc => alloc_get w.drew _ c hc) rfl rfl rfl hblk
                rw [hH0] at g3
                exact ⟨L', R, g2, g1, .ref H.n 0 (len + n) ei.sz (len + n) false w.heap.size 0 _ cap2 g3 hc2 hc2 (fun h => by cases h) (by omega)⟩
              split at h
              · split at h
                · rename_i hfit
                  simp at h; obtain ⟨rfl, rfl⟩ := h
                  exact hgrow H hS rfl hfit (by rw [hex rfl]; exact hr1)
                · simp at h
              · split at h
                · rename_i hend
                  obtain ⟨hend, hu⟩ := hend
                  simp at h; obtain ⟨rfl, rfl⟩ := h
                  by_cases hno : len + n ≤ cap'
                  · -- in place
                    have hfit2 : o' + cs.length + new.length ≤ sz := by
                      rw [hvlen]
                      have : len * ei.sz + n * ei.sz ≤ cap' * ei.sz := by rw [← Nat.add_mul]; exact Nat.mul_le_mul_right _ hno
                      omega
                    obtain ⟨w', L', e1, e2, e3, e4⟩ := extend_sound P hS hL hcs (off := off) (by omega) hvs hvone hfit2 hu
                    refine ⟨_, w', append_room hd hd1 hi1 hei hlen (hx w rfl) hno (w' := w') (fun a ha => ?_) (fun h => by cases h) tys h0 h1 ty, L', R, e3, e2, ?_⟩
                    · cases ha; rw [add_none, Nat.add_assoc, hend]; exact e1
                    · have := VR.ref (L := L') (R := R) H.n 0 (len + n) ei.sz (len + n) false c (o' + off) sz cap' e4 hno hno (fun h => by cases h) (by omega)
                      simpa using this
                  · obtain ⟨k1, k2⟩ := kill_sound hS (b := b) (by rw [hcs]; simp) ⟨_, hL⟩
                    obtain ⟨val, w', r1, r2⟩ := hgrow _ k1 rfl (by omega) hno
                    have htake : (cs.drop off).take (len * ei.sz) = cs.drop off := List.take_of_length_le (by simp; omega)
                    rw [htake] at r2
                    obtain ⟨L', R', s1, s2, s3⟩ := r2
                    exact ⟨val, w', r1, L', R', k2.trans hS.dom s1, s2, s3⟩
                · simp at h
            · simp at h
        · simp at h
      · simp at h
  · simp at h

end Go.Ab
