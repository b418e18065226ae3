/- Part of the proof over the seat YtlphbbfoihcgkaaGreat: AbE. No conditions of its own. -/
import Derived.Test.YtlphbbfoihcgkaaGreatAbEff
namespace Go.Ab
variable {P : Program} {L : Loc} {R : Rom} {H H' : Hp} {w : World} {E : Env} {call : CallF} {env : Tr AV} {ρ : Operand → Value} {o : Oper}

theorem store_sound (hS : Sim L R H w) {t : Nat} {ti : TI} (ht : TyRel P t ti) {p v : AV} {pv vv : Value} (hp : VR L R p pv) (hv : VR L R v vv) (h : store H ti p v = some H') :
    ∃ w', (Instr.storeAt t pv vv).run P w = .ok () w' ∧ Sim L R H' w' ∧ Step L R H w L R H' w' := by
  unfold store at h
  split at h
  · rename_i b off
    split at h
    · rename_i cs hcs
      simp only at h
      split at h
      · rename_i hb
        obtain ⟨hval, hlen, hfit, hu⟩ := hb
        simp at h; subst h
        obtain ⟨c, o', sz, rfl, hL⟩ := hp.ptr_inv
        obtain ⟨hvs, hone⟩ := hv.cells hval
        obtain ⟨w', h1, h2, h3⟩ := write_sound P hS hL hcs (off := off) hvs hone (by omega) (u8ok_spec hu)
        refine ⟨w', ?_, h2, h3⟩
        have hsz : vv.cells.size = ti.sz := by have := hvs.1; simp at this; omega
        simp [Instr.storeAt, Instr.sureAddr, storeVar, hsz, ht.run_size, h1]
      · simp at h
    · simp at h
  · simp at h

theorem sameBits_of {kk : TK} {d : TypeDesc} (hk : descOk kk d = true) (hkey : kk.key = true) {a b : AV} {x y : Value} (ha : VR L R a x) (hb : VR L R b y) (he : eq1 kk a b = some true) (n : Nat) : Instr.sameBits n y x = true := by
  unfold eq1 at he
  split at he
  · split at he
    · rename_i hkk; cases kEq_eq hkk
      simp at he; subst he
      rw [ha.int_inv, hb.int_inv]
      cases n <;> simp [Instr.sameBits]
    · simp at he
  · simp at he; subst he; rw [ha.bool_inv, hb.bool_inv]; cases n <;> simp [Instr.sameBits]
  · simp [bEq_eq] at he; subst he; rw [ha.str_inv, hb.str_inv]; cases n <;> simp [Instr.sameBits, beq_toListBytes]
  all_goals first | (simp at he; done) | (simp [TK.key] at hkey; done)

theorem run_setObj_my {r : Nat} {es : Array MapEntry} {k : Nat} (x : Obj) (h : w.heap[r]? = some (.map es k)) : (setObj r x).run P w = .ok () (setBlk w r x) := by
  simp [setObj, Sem.run, h, setBlk]

theorem mapUpdate_sound (hS : Sim L R H w) {t kt e : Nat} (hd : P.underlying t = some (.map kt e)) {ki : TI} (hki : TyRel P kt ki) (hkey : ki.k.key = true) {k v : AV} (hk1 : k.one = true) (hv1 : v.val = true) {b : Nat} {mv kv vv : Value}
    (hm : VR L R (.map b) mv) (hk : VR L R k kv) (hv : VR L R v vv) {es : List (AV × AV)} (hes : H.get b = .map es) {es' : List (AV × AV)}
    (h : (∃ j a, findKey ki.k k es 0 = some (some (j, a)) ∧ es' = es.set j (k, v)) ∨ (findKey ki.k k es 0 = some none ∧ es' = es ++ [(k, v)])) :
    ∃ w', (Instr.mapUpdate t mv kv vv).run P w = .ok () w' ∧ Sim L R (H.put b (.map es')) w' ∧ Step L R H w L R (H.put b (.map es')) w' := by
  obtain ⟨c, o', sz, rfl, hL⟩ := hm.map_inv
  obtain ⟨dk, hdk, hkd⟩ := hki.und
  have hB := hS.blk b _ hL
  rw [hes] at hB
  obtain ⟨ME, ck, hME, hsz, hrel⟩ := hB
  simp only at hME
  have hck := checkKey_run (w := w) hdk hkd hkey kv false
  have hlive : H.get b ≠ .dead := by rw [hes]; simp
  have hc := lt_of_get hME
  rcases h with ⟨j, a, hf, rfl⟩ | ⟨hf, rfl⟩
  · obtain ⟨r', h1, h2⟩ := findNow_sound hkd hkey hk es ME.toList 0 _ (by simpa using hsz.symm) (fun i e x he hx => by obtain ⟨e1, e2, _⟩ := hrel i e x he (by simpa using hx); exact ⟨e1, e2⟩) hf
    rcases h2 with ⟨h2, _⟩ | ⟨j', a', v', h2, h3, h4, h5, h6, e0, x0, h7, h8, h9, h10, h11⟩
    · simp at h2
    · simp at h2; obtain ⟨rfl, rfl⟩ := h2
      subst h3
      simp at h7 h8
      have hx0 : ME[j]? = some x0 := h8
      have hrel0 := hrel j e0 x0 h7 hx0
      have hstay : ∀ w, (Instr.keyThatStays x0.key kv).run P w = .ok kv w := fun w => by
        simp [Instr.keyThatStays, sameBits_of hkd hkey hk hrel0.1 h11]
      refine ⟨setBlk w c (.map (ME.modify j fun e => { e with key := kv, val := vv }) ck), ?_, put_sound hS hL hlive ⟨_, ck, by rw [setBlk_get _ _ _ _ hc, if_pos rfl], by simpa using hsz, fun i e x he hx => ?_⟩⟩
      · simp only [Instr.mapUpdate, Sem.run_bind, run_und hd, Result.andThen_ok, run_getObj_my hME, hck]
        have hfk : (Instr.findKey kt kv ME.toList).run P w = .ok (some (j, v')) w := by simp [Instr.findKey, run_und hdk, h1]
        simp only [hfk, Result.andThen_ok, Sem.run_bind]
        have : ((ME[j]?).map (·.key)).getD kv = x0.key := by simp [hx0]
        simp only [this, hstay, Result.andThen_ok, run_setObj_my _ hME]
      · rw [Array.getElem?_modify] at hx
        rw [List.getElem?_set] at he
        by_cases hij : j = i
        · subst hij
          simp only [if_true] at he hx
          split at he
          · simp at he; subst he
            rw [hx0] at hx; simp at hx; subst hx
            exact ⟨hk, hv, hk1, hv1⟩
          · simp at he
        · rw [if_neg hij] at he hx
          exact hrel i e x he hx
  · obtain ⟨r', h1, h2⟩ := findNow_sound hkd hkey hk es ME.toList 0 _ (by simpa using hsz.symm) (fun i e x he hx => by obtain ⟨e1, e2, _⟩ := hrel i e x he (by simpa using hx); exact ⟨e1, e2⟩) hf
    rcases h2 with ⟨_, h2⟩ | ⟨j', a', v', h2, _⟩
    · subst h2
      refine ⟨setBlk w c (.map (ME.push { key := kv, val := vv, born := ck }) (ck + 1)), ?_, put_sound hS hL hlive ⟨_, ck + 1, by rw [setBlk_get _ _ _ _ hc, if_pos rfl], by simp [hsz], fun i e x he hx => ?_⟩⟩
      · simp only [Instr.mapUpdate, Sem.run_bind, run_und hd, Result.andThen_ok, run_getObj_my hME, hck]
        have hfk : (Instr.findKey kt kv ME.toList).run P w = .ok none w := by simp [Instr.findKey, run_und hdk, h1]
        simp only [hfk, Result.andThen_ok, run_setObj_my _ hME]
      · by_cases hi : i < es.length
        · rw [List.getElem?_append_left hi] at he
          rw [Array.getElem?_push, if_neg (by omega)] at hx
          exact hrel i e x he hx
        · rw [List.getElem?_append_right (by omega)] at he
          have hi0 : i - es.length = 0 := by
            have := (List.getElem?_eq_some_iff.1 he).1; simp at this; omega
          rw [hi0] at he; simp at he; subst he
          rw [Array.getElem?_push, if_pos (by omega)] at hx
          simp at hx; subst hx
          exact ⟨hk, hv, hk1, hv1⟩
    · simp at h2

theorem RunsTo.skip {s : Sem Unit} {w' : World} (h : s.run P w = .ok () w') {K : Value → World → Prop} (hK : K undef w') : RunsTo P ((do s; pure .skip : Sem Next).run P w) K := by
  simp only [Sem.run_bind, h, Result.andThen_ok, Sem.run_pure]
  exact hK

theorem RunsTo.value {s : Sem Value} {val : Value} {w' : World} (h : s.run P w = .ok val w') {K : Value → World → Prop} (hK : K val w') : RunsTo P ((do pure (.value (← s)) : Sem Next).run P w) K := by
  simp only [Sem.run_bind, h, Result.andThen_ok, Sem.run_pure]
  exact hK

theorem e_sound (hT : TyOk P E.ty) (hC : CallOk P call) (hS : Sim L R H w) (hE : ER L R env ρ o.op.operands.toList) {v : AV} (hk : kindOf E o.op = .ef) (h : evE E call env H o.op = some (v, H')) :
    RunsTo P ((execOp ρ o).run P w) (Post L R H w v H') := by
  unfold execOp
  cases hop : o.op <;> rw [hop] at h hE hk <;> simp only [evE] at h <;> (first | (cases h; done) | skip)
  case store t a x =>
    split at h
    · rename_i ti p u hti hp hu
      split at h
      · rename_i H1 hst
        simp at h; obtain ⟨rfl, rfl⟩ := h
        obtain ⟨w', h1, h2, h3⟩ := store_sound hS (hT _ _ hti) (hE a (by simp [Op.operands]) p hp) (hE x (by simp [Op.operands]) u hu) hst
        exact .skip h1 ⟨L, R, h3, h2, .undef _⟩
      · simp at h
    · simp at h
  case insert t x i uu =>
    split at h
    · rename_i ki b k u hki hx hi hu
      obtain ⟨ti, hti, hki⟩ := Option.bind_eq_some_iff.1 hki
      split at hki
      · rename_i kt et hq
        obtain ⟨d, hd, hkk⟩ := (hT _ _ hti).und
        rw [hq] at hkk
        cases descOk_map hkk
        split at h
        · rename_i es hes
          split at h
          · rename_i hkey
            simp only [Bool.and_eq_true] at hkey
            obtain ⟨⟨hk1, hk2⟩, hk3⟩ := hkey
            have hgo : ∀ es', ((∃ j a, findKey ki.k k es 0 = some (some (j, a)) ∧ es' = es.set j (k, u)) ∨ (findKey ki.k k es 0 = some none ∧ es' = es ++ [(k, u)])) → (v, H') = (.undef, H.put b (.map es')) →
                RunsTo P ((do Instr.mapUpdate t (ρ x) (ρ i) (ρ uu); pure .skip : Sem Next).run P w) (Post L R H w v H') := by
              intro es' he heq
              simp at heq; obtain ⟨rfl, rfl⟩ := heq
              obtain ⟨w', h1, h2, h3⟩ := mapUpdate_sound hS hd (hT _ _ hki) hk1 hk2 hk3 (hE x (by simp [Op.operands]) _ hx) (hE i (by simp [Op.operands]) _ hi) (hE uu (by simp [Op.operands]) _ hu) hes he
              exact .skip h1 ⟨L, R, h3, h2, .undef _⟩
            split at h
            · rename_i j a hf
              simp at h
              exact hgo _ (.inl ⟨j, a, hf, rfl⟩) (by simp [h])
            · rename_i hf
              simp at h
              exact hgo _ (.inr ⟨hf, rfl⟩) (by simp [h])
            · simp at h
          · simp at h
        · simp at h
      · simp at hki
    · simp at h
  case mapUpdate t x i uu =>
    split at h
    · rename_i ki b k u hki hx hi hu
      obtain ⟨ti, hti, hki⟩ := Option.bind_eq_some_iff.1 hki
      split at hki
      · rename_i kt et hq
        obtain ⟨d, hd, hkk⟩ := (hT _ _ hti).und
        rw [hq] at hkk
        cases descOk_map hkk
        split at h
        · rename_i es hes
          split at h
          · rename_i hkey
            simp only [Bool.and_eq_true] at hkey
            obtain ⟨⟨hk1, hk2⟩, hk3⟩ := hkey
            have hgo : ∀ es', ((∃ j a, findKey ki.k k es 0 = some (some (j, a)) ∧ es' = es.set j (k, u)) ∨ (findKey ki.k k es 0 = some none ∧ es' = es ++ [(k, u)])) → (v, H') = (.undef, H.put b (.map es')) →
                RunsTo P ((do Instr.mapUpdate t (ρ x) (ρ i) (ρ uu); pure .skip : Sem Next).run P w) (Post L R H w v H') := by
              intro es' he heq
              simp at heq; obtain ⟨rfl, rfl⟩ := heq
              obtain ⟨w', h1, h2, h3⟩ := mapUpdate_sound hS hd (hT _ _ hki) hk1 hk2 hk3 (hE x (by simp [Op.operands]) _ hx) (hE i (by simp [Op.operands]) _ hi) (hE uu (by simp [Op.operands]) _ hu) hes he
              exact .skip h1 ⟨L, R, h3, h2, .undef _⟩
            split at h
            · rename_i j a hf
              simp at h
              exact hgo _ (.inl ⟨j, a, hf, rfl⟩) (by simp [h])
            · rename_i hf
              simp at h
              exact hgo _ (.inr ⟨hf, rfl⟩) (by simp [h])
            · simp at h
          · simp at h
        · simp at h
      · simp at hki
    · simp at h
  case convert s d x =>
    split at h
    · rename_i si b off len m cap ex hsd hsi hx
      cases Nat.eq_of_beq_eq_true hsd
      obtain ⟨ds, hds, hks⟩ := (hT _ _ hsi).und
      split at h
      · rename_i e hq
        rw [hq] at hks
        cases descOk_sl hks
        split at h
        · rename_i ei cs hei hcs
          split at h
          · rename_i hq2 hall
            simp at h; obtain ⟨rfl, rfl⟩ := h
            obtain ⟨de, hde, hke⟩ := (hT _ _ hei).und
            rw [hq2] at hke
            cases de <;> simp only [descOk, Bool.false_eq_true] at hke
            cases kEq_eq hke
            have hxr := hE x (by simp [Op.operands]) _ hx
            generalize hρ : ρ x = xv at hxr
            have hxr' := hxr
            cases hxr with
            | ref _ _ _ _ _ _ c o' sz cap' hL hl hc hex hroom =>
              have hB := hS.blk b _ hL
              rw [hcs] at hB
              obtain ⟨C, t', fr, hC, hsz, hlc, hfr, hone, hcells, hrep⟩ := hB
              simp only at hC hsz hlc hcells
              have hclt := lt_of_get hC
              let fr' : Nat × Nat := if fr.1 == fr.2 then (C.size, C.size + 1) else (min fr.1 C.size, max fr.2 (C.size + 1))
              have hmark : (markStringish ⟨c, o' + off, none⟩).run P w = .ok () (setBlk w c (.cells C t' fr')) := by
                have hshape : w.shape? c = some (t', C.size) := by simp only [World.shape?, hC]
                simp only [markStringish, Sem.run_bind, run_shape, Result.andThen_ok, hshape, run_freeze]
                congr 1
                simp only [World.freeze, setBlk, if_neg (by decide : ¬ (1 = 0))]
                congr 1
                apply Array.ext_getElem?
                intro k
                rw [Array.getElem?_modify, Array.getElem?_setIfInBounds]
                by_cases hk : c = k
                · subst hk
                  rw [if_pos rfl, if_pos rfl, if_pos hclt, hC]
                  rfl
                · rw [if_neg hk, if_neg hk]
              obtain ⟨g1, g2⟩ := put_sound hS hL (x := .cells cs) (y := .cells C t' fr') (by rw [hcs]; simp) ⟨C, t', fr', by rw [setBlk_get _ _ _ _ hclt, if_pos rfl], hsz, hlc, by
                simp only [fr']
                split
                · exact .inr ⟨Nat.le_refl _, allU8_iff hall⟩
                · rename_i hne
                  rcases hfr with hfr | hfr
                  · simp [hfr] at hne
                  · exact .inr ⟨by simp only; omega, allU8_iff hall⟩, hone, hcells, hrep⟩
              have hsame : ∀ b', (H.put b (.cells cs)).get b' = H.get b' := fun b' => by
                rw [Hp.get_put]; split
                · rename_i hb; rw [hb, hcs]
                · rfl
              refine .value (val := .slice (some ⟨c, o' + off, none⟩) len cap') (w' := setBlk w c (.cells C t' fr')) ?_ ⟨L, R, ?_, ?_, hxr'⟩
              · rw [hρ]
                simp only [Go.convert, Sem.run_bind, run_und hds, run_und hde, Result.andThen_ok, beq_self_eq_true, hmark, Sem.run_pure]
              · exact ⟨.refl H, g2.ext, g2.rext, g2.new, fun _ _ _ => rfl, fun k hk hn => g2.conc k hk hn, g2.img, g2.rnew, g2.size, g2.os, g2.tape, g2.output⟩
              · exact ⟨fun b' q hq => by simpa using g1.dom b' q hq, fun b' q hq => by rw [← hsame]; exact g1.blk b' q hq, fun b1 b2 q1 q2 h1 h2 d1 d2 e => g1.inj b1 b2 q1 q2 h1 h2 (by rw [hsame]; exact d1) (by rw [hsame]; exact d2) e, g1.rom, fun b' q hq hd => g1.apart b' q hq (by rw [hsame]; exact hd)⟩
          · simp at h
        · simp at h
      · simp at h
    · simp at h
  case call c =>
    split at h
    · rename_i b args hc hargs
      have hv := ER.opnds (ρ := ρ) (fun x hx => hE x (by simp only [Op.operands, Call.operands, hc]; simpa using hx)) hargs
      have hres : ∀ s : Sem Value, (∀ cn, Go.builtin b c.argTypes o.type cn (c.args.map ρ) = (do pure (.value (← s)))) →
          ∀ val w', s.run P w = .ok val w' → Post L R H w v H' val w' → RunsTo P ((do let d ← resolve ρ c o.type; invoke d.target d.args).run P w) (Post L R H w v H') := by
        intro s hs val w' hrun hpost
        simp only [resolve, hc, Sem.run_bind, Sem.run_pure, Result.andThen_ok, invoke, hs, hrun]
        exact hpost
      split at h
      · -- append
        rename_i dst src
        obtain ⟨dv, vs', hcons, hdv, hvs⟩ := hv.inv_cons
        obtain ⟨sv, vs2, rfl, hsv, hvs2⟩ := hvs.inv_cons
        cases hvs2.inv_nil
        have hargv : c.args.map ρ = #[dv, sv] := by
          apply Array.toList_inj.1; rw [Array.toList_map, hcons]
        split at h
        · rename_i ti tj hti htj
          obtain ⟨t0, ht0, htt0⟩ := Option.bind_eq_some_iff.1 hti
          obtain ⟨t1, ht1, htt1⟩ := Option.bind_eq_some_iff.1 htj
          obtain ⟨d, hd, hk0⟩ := (hT _ _ htt0).und
          obtain ⟨d1, hd1, hk1⟩ := (hT _ _ htt1).und
          split at h
          · rename_i e hq hq1
            rw [hq] at hk0
            cases descOk_sl hk0
            have hi1 : (∃ e', d1 = .slice e') ∨ d1 = .string := by
              split at hq1
              · rename_i e1 hq2; rw [hq2] at hk1; exact .inl ⟨_, descOk_sl hk1⟩
              · rename_i hq2; rw [hq2] at hk1
                cases d1 <;> simp only [descOk, Bool.false_eq_true] at hk1
                exact .inr rfl
              · cases hq1
            split at h
            · rename_i ei n hei hn
              split at h
              · rename_i new hnew
                obtain ⟨val, w', r1, r2⟩ := append_sound hS hd hd1 hi1 (hT _ _ hei) hdv hsv hn hnew h c.argTypes ht0 ht1 o.type
                exact hres _ (fun _ => rfl) val w' (by rw [hargv]; exact r1) r2
              · simp at h
            · simp at h
          · simp at h
        · simp at h
      · -- copy
        rename_i dst src
        obtain ⟨dv, vs', hcons, hdv, hvs⟩ := hv.inv_cons
        obtain ⟨sv, vs2, rfl, hsv, hvs2⟩ := hvs.inv_cons
        cases hvs2.inv_nil
        have hargv : c.args.map ρ = #[dv, sv] := by
          apply Array.toList_inj.1; rw [Array.toList_map, hcons]
        split at h
        · rename_i ti hti
          obtain ⟨t0, ht0, htt0⟩ := Option.bind_eq_some_iff.1 hti
          obtain ⟨d, hd, hk0⟩ := (hT _ _ htt0).und
          split at h
          · rename_i e hq
            rw [hq] at hk0
            cases descOk_sl hk0
            split at h
            · rename_i ei dn sn hei hdn hsn
              have hmin : Nat.min sn dn = minN dn sn := by
                simp only [minN]
                cases hble : Nat.ble dn sn
                · have : ¬ dn ≤ sn := fun h => by rw [Nat.ble_eq_true_of_le h] at hble; cases hble
                  simp only [Nat.min_def]; split <;> omega
                · have := Nat.le_of_ble_eq_true hble
                  simp only [Nat.min_def]; split <;> omega
              generalize minN dn sn = n at h hmin
              split at h
              · rename_i new hnew
                obtain ⟨vals, f1, f2, f3, f4⟩ := cellsOf_sound (P := P) hS hsv hnew
                have hlen := lenOf_sound (P := P) (w := w) hsv hsn hnew
                split at h
                · rename_i b off len m cap ex
                  simp [lenAV] at hdn; subst hdn
                  split at h
                  · rename_i cs hcs
                    split at h
                    · rename_i hb
                      obtain ⟨rfl, hfit, hu⟩ := hb
                      simp at h; obtain ⟨rfl, rfl⟩ := h
                      cases hdv with
                      | ref _ _ _ _ _ _ c' o' sz cap' hL hl hc' hex hroom =>
                        obtain ⟨w', e1, e2, e3⟩ := write_sound P hS hL hcs (off := off) f2 f3 (by rw [f4]; exact hfit) (u8ok_spec hu)
                        refine hres _ (fun _ => rfl) (goInt n) w' ?_ ⟨L, R, e3, e2, .int _ _⟩
                        rw [hargv]
                        simp [Builtin.copy_, ht0, run_und hd, hlen, hmin, (hT _ _ hei).run_size, f1 w rfl, e1]
                    · simp at h
                  · simp at h
                · simp [lenAV] at hdn; subst hdn
                  have : n = 0 := by rw [← hmin]; simp
                  subst this
                  simp at h; obtain ⟨rfl, rfl⟩ := h
                  rw [hdv.nsl_inv] at hargv
                  refine hres _ (fun _ => rfl) (goInt 0) w ?_ ⟨L, R, .refl _ _ _ _, hS, .int _ _⟩
                  rw [hargv]
                  simp [Builtin.copy_, ht0, run_und hd, hlen, (hT _ _ hei).run_size, f1 w rfl]
                · simp at h
              · simp at h
            · simp at h
          · simp at h
        · simp at h
      · -- clear
        rename_i x
        obtain ⟨xv, vs', hcons, hxv, hvs⟩ := hv.inv_cons
        cases hvs.inv_nil
        have hargv : c.args.map ρ = #[xv] := by
          apply Array.toList_inj.1; rw [Array.toList_map, hcons]
        split at h
        · rename_i ti hti
          obtain ⟨t0, ht0, htt0⟩ := Option.bind_eq_some_iff.1 hti
          obtain ⟨d, hd, hk0⟩ := (hT _ _ htt0).und
          split at h
          · rename_i e hq
            rw [hq] at hk0
            cases descOk_sl hk0
            split at h
            · rename_i ei hei
              split at h
              · rename_i b off len m cap ex
                split at h
                · simp at h; obtain ⟨rfl, rfl⟩ := h
                  refine hres _ (fun _ => rfl) (.tuple #[]) w ?_ ⟨L, R, .refl _ _ _ _, hS, .mk_tup (.nil _ _)⟩
                  rw [hargv]
                  cases hxv with | ref _ _ _ _ _ _ c' o' sz cap' hL hl hc' hex hroom => simp [Builtin.clear_, ht0, run_und hd]
                · rename_i hlen0
                  split at h
                  · rename_i cs hcs
                    split at h
                    · rename_i hb
                      obtain ⟨hfit, rfl, hz, hu⟩ := hb
                      simp at h; obtain ⟨rfl, rfl⟩ := h
                      obtain ⟨z, hzr, hzz, _, _⟩ := (hT _ _ hei).run_zero (w := w)
                      obtain ⟨z1, z2⟩ := hzz L R
                      have hzs : z.cells.size = ei.zero.length := by have := z1.1; simpa using this.symm
                      cases hxv with
                      | ref _ _ _ _ _ _ c' o' sz cap' hL hl hc' hex hroom =>
                        have hrow := zeros_sound z1 len (len * z.cells.size) (by rw [hzs])
                        obtain ⟨w', e1, e2, e3⟩ := write_sound P hS hL hcs (off := off) hrow (repeat_one z2 len) (by rw [repeat_length, hz]; exact hfit) (u8ok_spec hu)
                        refine hres _ (fun _ => rfl) (.tuple #[]) w' ?_ ⟨L, R, e3, e2, .mk_tup (.nil _ _)⟩
                        rw [hargv]
                        obtain ⟨k, rfl⟩ : ∃ k, len = k + 1 := ⟨len - 1, by have := Nat.pos_of_ne_zero hlen0; omega⟩
                        have e1' : (storeCells ⟨c', o' + off, none⟩ (Builtin.zeroCells z.cells (k + 1)).toList).run P w = .ok () w' := e1
                        simp [Builtin.clear_, ht0, run_und hd, hzr, e1']
                    · simp at h
                  · simp at h
              · simp at h; obtain ⟨rfl, rfl⟩ := h
                refine hres _ (fun _ => rfl) (.tuple #[]) w ?_ ⟨L, R, .refl _ _ _ _, hS, .mk_tup (.nil _ _)⟩
                rw [hargv, hxv.nsl_inv]
                simp [Builtin.clear_, ht0, run_und hd]
              · simp at h; obtain ⟨rfl, rfl⟩ := h
                refine hres _ (fun _ => rfl) (.tuple #[]) w ?_ ⟨L, R, .refl _ _ _ _, hS, .mk_tup (.nil _ _)⟩
                rw [hargv]
                cases hxv with
                | immNil _ => simp [Builtin.clear_, ht0, run_und hd]
                | imm _ _ _ c0 o0 cap f hm ho hr hv' hc' => simp [Builtin.clear_, ht0, run_und hd]
              · simp at h
            · simp at h
          · simp at h
        · simp at h
      · simp at h
    · rename_i f args hc hargs
      have hv := ER.opnds (ρ := ρ) (fun x hx => hE x (by simp only [Op.operands, Call.operands, hc]; simp only [Array.toList_append, List.mem_append]; exact .inr hx)) hargs
      split at h
      · rename_i g caps hf
        obtain ⟨vs, hρ, hvs⟩ := (hE f (by simp [Op.operands, Call.operands, hc]) _ hf).fn_inv
        have hall : VRs L R (args ++ caps) (c.args.map ρ ++ vs).toList := by
          rw [Array.toList_append, Array.toList_map]; exact hv.append hvs
        have h1 := hC g _ H v H' h L R w _ hS hall
        simp only [resolve, hc, hρ, Deferred.ofValue, Sem.run_bind, Sem.run_pure, Result.andThen_ok, invoke]
        simp only [Array.empty_append]
        exact h1
      · simp at h
    · simp at h

end Go.Ab
