/- Part of the proof over the seat YtlphbbfoihcgkaaGreat: AbOp. No conditions of its own. -/
import Derived.Test.YtlphbbfoihcgkaaGreatAbBuild
namespace Go.Ab
variable {P : Program} {L : Loc} {R : Rom} {H H' : Hp} {w : World} {E : Env} {env : Tr AV} {ρ : Operand → Value} {o : Oper}

theorem ER.mono {L' : Loc} {R' : Rom} {xs : List Operand} (h : ER L R env ρ xs) (hL : ∀ b x, L b = some x → L' b = some x) (hR : ∀ c o v, R c o = some v → R' c o = some v) : ER L' R' env ρ xs :=
  fun x hx a ha => (h x hx a ha).mono hL hR

theorem ER.opnds {xs : List Operand} {l : List AV} : ER L R env ρ xs → opnds env xs = some l → VRs L R l (xs.map ρ) := by
  induction xs generalizing l with
  | nil => intro _ h; simp [Ab.opnds] at h; subst h; exact .nil _ _
  | cons x xs ih =>
    intro he h
    simp only [Ab.opnds] at h
    split at h
    · rename_i v hv
      split at h
      · rename_i vs hvs
        simp at h; subst h
        exact .cons (he x (by simp) v hv) (ih (fun y hy => he y (by simp [hy])) hvs)
      · simp at h
    · simp at h

theorem ER.parts {ps : List (Nat × Operand)} {l : List (Nat × AV)} : ER L R env ρ (ps.map (·.2)) → parts env ps = some l → PartsR L R l (ps.map fun x => (x.1, ρ x.2)) := by
  induction ps generalizing l with
  | nil => intro _ h; simp [Ab.parts] at h; subst h; exact ⟨rfl, by simp⟩
  | cons x ps ih =>
    intro he h
    obtain ⟨i, x⟩ := x
    simp only [Ab.parts] at h
    split at h
    · rename_i v hv
      split at h
      · rename_i vs hvs
        simp at h; subst h
        obtain ⟨h1, h2⟩ := ih (fun y hy => he y (by simp only [List.map_cons, List.mem_cons]; exact .inr hy)) hvs
        refine ⟨by simp [h1], fun j a b ha hb => ?_⟩
        cases j with
        | zero => simp at ha hb; subst ha hb; exact ⟨rfl, he x (by simp) v hv⟩
        | succ j => exact h2 j a b (by simpa using ha) (by simpa using hb)
      · simp at h
    · simp at h

theorem ER.opt {x : Option Operand} {a : Option AV} (he : ER L R env ρ x.toList) (h : optOpnd env x = some a) : OptR L R a (x.map ρ) := by
  cases x with
  | none => simp [optOpnd] at h; subst h; trivial
  | some x =>
    simp only [optOpnd] at h
    split at h
    · rename_i v hv
      simp at h; subst h
      exact he x (by simp) v hv
    · simp at h

theorem VR.ptr_inv {b off : Nat} {x : Value} (h : VR L R (.ptr b off) x) : ∃ c o sz, x = .pointer (some ⟨c, o + off, none⟩) ∧ L b = some (c, o, sz) := by
  cases h with | ptr _ _ c o sz hb => exact ⟨c, o, sz, rfl, hb⟩
theorem VR.fn_inv {f : Nat} {caps : List AV} {x : Value} (h : VR L R (.fn f caps) x) : ∃ vs, x = .func (.func f) #[] vs ∧ VRs L R caps vs.toList := by
  cases h with | fn _ _ vs hl hv => exact ⟨vs, rfl, by simpa using hl, fun i a v ha hv' => hv i a v ha (by simpa using hv')⟩
theorem VR.iptr_inv {m : Nat} {es : List AV} {i off : Nat} {x : Value} (h : VR L R (.iptr m es i off) x) : ∃ c o, x = .pointer (some ⟨c, o + i * m + off, none⟩) ∧ ∀ off', VR L R (.iptr m es i off') (.pointer (some ⟨c, o + i * m + off', none⟩)) := by
  cases h with | iptr _ _ _ _ c o f hm ho hr hv => exact ⟨c, o, rfl, fun off' => .iptr m es i off' c o f hm ho hr hv⟩
theorem VR.map_inv {b : Nat} {x : Value} (h : VR L R (.map b) x) : ∃ c o sz, x = .map (some c) ∧ L b = some (c, o, sz) := by
  cases h with | map _ c o sz hb => exact ⟨c, o, sz, rfl, hb⟩

theorem bytesOf_sound : ∀ {cs : List AV} {l : List UInt8} {vs : List Value}, bytesOf cs = some l → VRs L R cs vs → vs.length = l.length ∧ ∀ (i : Nat) (v : Value), vs[i]? = some v → ∃ n, v = .int .u8 n ∧ l[i]? = some (UInt8.ofNat n.toNat) := by
  intro cs
  induction cs with
  | nil => intro l vs h hv; simp [bytesOf] at h; subst h; cases hv.inv_nil; exact ⟨rfl, by simp⟩
  | cons a cs ih =>
    intro l vs h hv
    obtain ⟨v, vs', rfl, h1, h2⟩ := hv.inv_cons
    simp only [bytesOf] at h
    split at h
    · rename_i b bs hb hbs
      simp at h; subst h
      obtain ⟨e1, e2⟩ := ih hbs h2
      refine ⟨by simp [e1], fun i u hu => ?_⟩
      cases i with
      | zero =>
        simp at hu; subst hu
        unfold byteOf at hb
        split at hb
        · rename_i n
          simp at hb; subst hb
          exact ⟨n, h1.int_inv, rfl⟩
        · simp at hb
      | succ i => simpa using e2 i u (by simpa using hu)
    · simp at h

/-- The bytes of a row, put together. -/
theorem run_pushBytes (w : World) : ∀ (vs : List Value) (l : List UInt8) (acc : ByteArray), vs.length = l.length → (∀ (i : Nat) (v : Value), vs[i]? = some v → ∃ n, v = .int .u8 n ∧ l[i]? = some (UInt8.ofNat n.toNat)) →
    (forIn (m := Sem) vs acc fun c s => match c with
      | .int .u8 n => pure (ForInStep.yield (s.push (UInt8.ofNat n.toNat)))
      | _ => do let y ← stuck "bytesToString: byte expected"; pure (ForInStep.yield y)).run P w = .ok ⟨acc.data ++ l.toArray⟩ w := by
  intro vs
  induction vs with
  | nil => intro l acc hl _; cases List.length_eq_zero_iff.1 hl.symm; simp
  | cons v vs ih =>
    intro l acc hl h
    cases l with
    | nil => simp at hl
    | cons b l =>
      obtain ⟨n, rfl, hb⟩ := h 0 v rfl
      simp at hb
      simp only [List.forIn_cons, Sem.run_bind, Sem.run_pure, Result.andThen_ok]
      rw [ih l _ (by simpa using hl) (fun i u hu => by simpa using h (i + 1) u (by simpa using hu))]
      congr 2
      simp [ByteArray.push, ← hb]

theorem run_getObj_my {r : Nat} {es : Array MapEntry} {k : Nat} (h : w.heap[r]? = some (.map es k)) : (getObj r).run P w = .ok (.map es k) w := by
  simp [getObj, Sem.run, h]

theorem lookup_run {t kt e : Nat} (hd : P.underlying t = some (.map kt e)) {x idx : Value} {ME : Array MapEntry} (hx : (x = .map none ∧ ME = #[]) ∨ ∃ c k, x = .map (some c) ∧ w.heap[c]? = some (.map ME k))
    (hck : ∀ b, (Instr.checkKey b 10000 kt idx).run P w = .ok () w) {r : Option (Nat × Value)} (hf : (Instr.findKey kt idx ME.toList).run P w = .ok r w) {z : Value} (hz : (zeroValue e).run P w = .ok z w) (ok : Bool) :
    (Instr.lookup t x idx ok).run P w = .ok (match r with | some (_, v) => if ok then .tuple #[v, .bool true] else v | none => if ok then .tuple #[z, .bool false] else z) w := by
  rcases hx with ⟨rfl, rfl⟩ | ⟨c, k, rfl, hc⟩
  · simp only [Instr.lookup, Sem.run_bind, run_und hd, Result.andThen_ok, Sem.run_pure, hck, hf]
    cases r <;> cases ok <;> simp [hz]
  · simp only [Instr.lookup, Sem.run_bind, run_und hd, Result.andThen_ok, Sem.run_pure, run_getObj_my hc, hck, hf]
    cases r <;> cases ok <;> simp [hz]

theorem checkKey_run' {kt : Nat} {kk : TK} {d : TypeDesc} (hd : P.underlying kt = some d) (hk : descOk kk d = true) (hkey : kk.key = true) (v : Value) (b : Bool) (n : Nat) : (Instr.checkKey b (n + 1) kt v).run P w = .ok () w := by
  cases kk <;> simp [TK.key] at hkey
  all_goals (cases d <;> simp only [descOk, Bool.false_eq_true] at hk)
  all_goals
    simp only [Instr.checkKey, Sem.run_bind, run_und hd, Result.andThen_ok]
    rfl

theorem checkKey_run {kt : Nat} {kk : TK} {d : TypeDesc} (hd : P.underlying kt = some d) (hk : descOk kk d = true) (hkey : kk.key = true) (v : Value) (b : Bool) : (Instr.checkKey b 10000 kt v).run P w = .ok () w :=
  checkKey_run' hd hk hkey v b 9999

/-- What an operation that only reckons and reads comes to. -/
def Plain (P : Program) (L : Loc) (R : Rom) (w : World) (s : Sem Next) (v : AV) : Prop := ∃ val, s.run P w = .ok (.value val) w ∧ VR L R v val

theorem Plain.of_value {s : Sem Value} {v : AV} {val : Value} (h : s.run P w = .ok val w) (hv : VR L R v val) : Plain P L R w (do pure (.value (← s))) v :=
  ⟨val, by simp [h], hv⟩

theorem pl_sound (hT : TyOk P E.ty) (hS : Sim L R H w) (hE : ER L R env ρ o.op.operands.toList) {v : AV} (hk : kindOf E o.op = .pl) (h : evPL E env H o.op = some v) : Plain P L R w (execOp ρ o) v := by
  unfold execOp
  cases hop : o.op <;> rw [hop] at h hE hk <;> simp only [evPL] at h <;> (first | (exact absurd h (by simp)) | skip)
  case move x => exact ⟨_, rfl, hE x (by simp [Op.operands]) v h⟩
  case assign x => exact ⟨_, rfl, hE x (by simp [Op.operands]) v h⟩
  case pick c a b =>
    split at h
    · rename_i hc
      have := (hE c (by simp [Op.operands]) _ hc).bool_inv
      exact ⟨ρ a, by simp [asBool, this], hE a (by simp [Op.operands]) v h⟩
    · rename_i hc
      have := (hE c (by simp [Op.operands]) _ hc).bool_inv
      exact ⟨ρ b, by simp [asBool, this], hE b (by simp [Op.operands]) v h⟩
    · simp at h
  case build t ps =>
    split at h
    · rename_i ti l hti hl
      have hpr : PartsR L R l (ps.map fun x => (x.1, ρ x.2)).toList := by
        rw [Array.toList_map]
        refine ER.parts (fun x hx => hE x ?_) hl
        simpa [Op.operands] using hx
      split at h
      · rename_i fs hq
        split at h
        · rename_i cs hcs
          simp at h; subst h
          obtain ⟨val, h1, h2⟩ := build_st_sound hT (hT _ _ hti) hq hpr hcs w
          exact .of_value h1 h2
        · simp at h
      · rename_i n e hq
        split at h
        · rename_i ei hei
          split at h
          · rename_i cs hcs
            simp at h; subst h
            obtain ⟨val, h1, h2⟩ := build_arr_sound (hT _ _ hti) hq (hT _ _ hei) hpr hcs w
            exact .of_value h1 h2
          · simp at h
        · simp at h
      · simp at h
    · simp at h
  case load t a =>
    split at h
    · rename_i ti p hti hp
      obtain ⟨val, h1, h2, _⟩ := load_sound (hT _ _ hti) hS (hE a (by simp [Op.operands]) p hp) h
      exact .of_value h1 h2
    · simp at h
  case nilCheck x =>
    split at h
    · rename_i b o hx
      simp at h; subst h
      have := hE x (by simp [Op.operands]) _ hx
      obtain ⟨c, o', sz, hρ, hb⟩ := this.ptr_inv
      exact ⟨ρ x, by simp [hρ], this⟩
    · rename_i m es i o hx
      simp at h; subst h
      have := hE x (by simp [Op.operands]) _ hx
      obtain ⟨c, o', hρ, _⟩ := this.iptr_inv
      exact ⟨ρ x, by simp [hρ], this⟩
    · rename_i f c hx
      simp at h; subst h
      have := hE x (by simp [Op.operands]) _ hx
      obtain ⟨vs, hρ, _⟩ := this.fn_inv
      exact ⟨ρ x, by simp [hρ], this⟩
    · simp at h
  case binOp op t x y u =>
    split at h
    · rename_i ti a b hti ha hb
      obtain ⟨val, h1, h2, h3⟩ := binOp_sound hT (hT _ _ hti) h (hE x (by simp [Op.operands]) a ha) (hE y (by simp [Op.operands]) b hb) x y w
      exact ⟨val, by simp [h1, h2], h3⟩
    · simp at h
  case unOp op t x =>
    split at h
    · rename_i a ha
      obtain ⟨val, h1, h2⟩ := unOp_sound (P := P) h (hE x (by simp [Op.operands]) a ha) w
      exact .of_value h1 h2
    · simp at h
  case convert s d x =>
    split at h
    · rename_i si di a hsi hdi ha
      have hx := hE x (by simp [Op.operands]) _ ha
      obtain ⟨ds, hds, hks⟩ := (hT _ _ hsi).und
      obtain ⟨dd, hdd, hkd⟩ := (hT _ _ hdi).und
      unfold convertPL at h
      split at h
      · rename_i k hq
        rw [hq] at hkd
        cases dd <;> simp only [descOk, Bool.false_eq_true] at hkd
        cases kEq_eq hkd
        split at h
        · rename_i k' n
          simp at h; subst h
          refine .of_value (val := .int k (k.wrap n)) ?_ (.int _ _)
          rw [hx.int_inv]
          simp [Go.convert, run_und hds, run_und hdd, Conv.intToInt]
        · simp at h
      · rename_i hq
        rw [hq] at hkd
        cases dd <;> simp only [descOk, Bool.false_eq_true] at hkd
        split at h
        · rename_i s' hq'
          simp at h; subst h
          refine .of_value (val := .string ⟨s'.toArray⟩) ?_ (.str _)
          rw [hx.str_inv]
          simp [Go.convert, run_und hds, run_und hdd]
        · simp at h
        · rename_i e hq' hns
          rw [hq'] at hks
          cases descOk_sl hks
          split at h
          · rename_i ei n hei hn
            split at h
            · rename_i cs hek hcs
              split at h
              · rename_i l hl
                simp at h; subst h
                obtain ⟨de, hde, hke⟩ := (hT _ _ hei).und
                rw [hek] at hke
                cases de <;> simp only [descOk, Bool.false_eq_true] at hke
                cases kEq_eq hke
                obtain ⟨vs, h1', h2, _, hlen⟩ := cellsOf_sound hS hx hcs (P := P)
                have h1 := h1' w rfl
                obtain ⟨h3, h4⟩ := bytesOf_sound hl h2
                refine .of_value (val := .string ⟨l.toArray⟩) ?_ (.str _)
                have hshape : ∃ a len cap, ρ x = .slice a len cap ∧ ((a = none ∧ n = 0) ∨ ∃ a1, a = some a1 ∧ len = n) := by
                  clear h1 h1' h2
                  unfold lenAV at hn
                  split at hn
                  · simp at hn; subst hn; exact ⟨_, _, _, hx.nsl_inv, .inl ⟨rfl, rfl⟩⟩
                  · simp at hn; subst hn
                    generalize hρ : ρ x = xv at hx
                    cases hx with
                    | immNil _ => exact ⟨_, _, _, rfl, .inl ⟨rfl, rfl⟩⟩
                    | imm _ _ _ c o cap f hm ho hr hv hc => exact ⟨_, _, _, rfl, .inr ⟨_, rfl, rfl⟩⟩
                  · simp at hn; subst hn
                    generalize hρ : ρ x = xv at hx
                    cases hx with | ref _ _ _ _ _ _ c o sz cap' hL hl hc hex hr => exact ⟨_, _, _, rfl, .inr ⟨_, rfl, rfl⟩⟩
                  · rename_i s0 _ ; exact absurd rfl (hns _)
                  · simp [cellsOf] at hcs
                  · simp [cellsOf] at hcs
                  · simp at hn
                have hconv : (Conv.bytesToString (ρ x)).run P w = .ok (.string ⟨l.toArray⟩) w := by
                  have key : ∀ a0 len cap, ρ x = .slice (some a0) len cap → len = n → (Conv.bytesToString (ρ x)).run P w = .ok (.string ⟨l.toArray⟩) w := by
                    intro a0 len cap e1 e2
                    subst e2
                    rw [e1] at h1 ⊢
                    simp only [Builtin.firstCells, Nat.mul_one] at h1
                    have hp := run_pushBytes (P := P) w vs l .empty h3 h4
                    simp only [Conv.bytesToString, Sem.run_bind, h1, Result.andThen_ok, ← Array.forIn_toList]
                    refine (congrArg (fun r => Result.andThen r _) hp).trans ?_
                    simp
                  obtain ⟨a0, len, cap, hρ, hcase⟩ := hshape
                  rcases hcase with ⟨rfl, rfl⟩ | ⟨a1, rfl, rfl⟩
                  · rw [hρ]
                    have : l = [] := by
                      have : vs = [] := List.length_eq_zero_iff.1 (by rw [← h2.1, hlen, Nat.zero_mul])
                      rw [this] at h3; exact List.length_eq_zero_iff.1 h3.symm
                    subst this
                    rfl
                  · exact key _ _ _ hρ rfl
                obtain ⟨a0, len, cap, hρ, _⟩ := hshape
                rw [hρ] at hconv ⊢
                simp only [Go.convert, Sem.run_bind, run_und hds, run_und hdd, run_und hde, Result.andThen_ok]
                exact hconv
              · simp at h
            · simp at h
          · simp at h
        · simp at h
      · simp at h
    · simp at h
  case makeFunc fn first caps =>
    cases fn <;> simp only at h <;> (first | (exact absurd h (by simp)) | skip)
    rename_i f
    split at h
    · rename_i l hf hl
      simp at h; subst h
      have hv := ER.opnds (ρ := ρ) (fun x hx => hE x (by simp only [Op.operands, Array.toList_append, List.mem_append]; exact .inr hx)) hl
      have hfirst : first = #[] := by simpa using hf
      subst hfirst
      refine .of_value (val := .func (.func f) #[] (caps.map ρ)) (by simp [Instr.makeFunc]) (.fn f l _ (by simpa using hv.1) (fun i a v ha hv' => hv.2 i a v ha (by simpa using hv')))
    · simp at h
  case slice t x lo hi mx =>
    cases mx <;> simp only at h
    · split at h
      · rename_i ti a l h' hti ha hl hh
        obtain ⟨val, h1, h2⟩ := sliceOp_sound hT (hT _ _ hti) (hE x (by simp [Op.operands]) a ha) (ER.opt (fun y hy => hE y (by simp [Op.operands] at hy ⊢; simp [hy])) hl) (ER.opt (fun y hy => hE y (by simp [Op.operands] at hy ⊢; simp [hy])) hh) h w
        exact .of_value h1 h2
      · simp at h
    · simp at h
  case fieldAddr t x f =>
    split at h
    · rename_i ti p hti hp
      split at h
      · rename_i fs hq
        split at h
        · rename_i off ft hf
          split at h
          · rename_i fi hfi
            split at h
            · simp at h
            · rename_i hz
              have hp' := hE x (by simp [Op.operands]) _ hp
              split at h
              · simp at h; subst h
                obtain ⟨c, o', sz, hρ, hb⟩ := hp'.ptr_inv
                refine .of_value (by rw [hρ]; exact fieldAt_run (hT _ _ hti) hq hf (hT _ _ hfi) (by simpa using hz) _ _ w) ?_
                rw [Nat.add_assoc]; exact .ptr _ _ _ _ _ hb
              · simp at h; subst h
                obtain ⟨c, o', hρ, hmk⟩ := hp'.iptr_inv
                refine .of_value (by rw [hρ]; exact fieldAt_run (hT _ _ hti) hq hf (hT _ _ hfi) (by simpa using hz) _ _ w) ?_
                rw [Nat.add_assoc]; exact hmk _
              · simp at h
          · simp at h
        · simp at h
      · simp at h
    · simp at h
  case field t x f =>
    split at h
    · rename_i ti a hti ha
      split at h
      · rename_i fs cs hq
        split at h
        · rename_i off ft hf
          split at h
          · rename_i fi hfi
            obtain ⟨vs, hρ, hvs, ho⟩ := (hE x (by simp [Op.operands]) _ ha).agg_inv
            obtain ⟨d, hd, hkk⟩ := (hT _ _ hti).und
            rw [hq] at hkk
            obtain ⟨gs, rfl, hg⟩ := descOk_st hkk
            obtain ⟨g, h1, rfl, rfl⟩ := field_at hg hf
            obtain ⟨val, h2, h3, _⟩ := part_sound (hT _ _ hfi) hvs ho h w
            exact .of_value (val := val) (by simp [Instr.field, run_und hd, h1, asAgg, hρ, h2]) h3
          · simp at h
        · simp at h
      · simp at h
    · simp at h
  case indexAddr t x i =>
    split at h
    · rename_i ti a iv hti ha hi
      obtain ⟨d, hd, hkk⟩ := (hT _ _ hti).und
      have hx := hE x (by simp [Op.operands]) _ ha
      have hix := hE i (by simp [Op.operands]) _ hi
      split at h
      · rename_i e n hq hn
        rw [hq] at hkk
        cases descOk_sl hkk
        obtain ⟨k, hρi⟩ := natOf_val hn hix
        split at h
        · rename_i ei hei
          split at h
          · rename_i b off len m cap ex
            split at h
            · rename_i hb
              obtain ⟨hb1, rfl⟩ := hb
              simp at h; subst h
              generalize hρ : ρ x = xv at hx
              cases hx with | ref _ _ _ _ _ _ c o sz cap' hL hl hc hex hr =>
              refine .of_value (by rw [hρ, hρi]; exact indexAt_slice_run hd (hT _ _ hei) hb1 w) ?_
              rw [Nat.add_assoc]; exact .ptr _ _ _ _ _ hL
            · simp at h
          · rename_i nn m es
            split at h
            · rename_i hb
              obtain ⟨hb1, rfl⟩ := hb
              simp at h; subst h
              generalize hρ : ρ x = xv at hx
              cases hx with
              | immNil _ => simp at hb1
              | imm _ _ _ c o cap f hm ho hr hv hc =>
                exact .of_value (by rw [hρ, hρi]; exact indexAt_slice_run hd (hT _ _ hei) hb1 w) (.iptr _ _ _ 0 _ _ _ hm ho hr hv)
            · simp at h
          · simp at h
        · simp at h
      · rename_i len e n hq hn
        rw [hq] at hkk
        cases descOk_arr hkk
        obtain ⟨k, hρi⟩ := natOf_val hn hix
        split at h
        · rename_i ei hei
          split at h
          · rename_i hb1
            split at h
            · simp at h; subst h
              obtain ⟨c, o', sz, hρ, hb⟩ := hx.ptr_inv
              refine .of_value (by rw [hρ, hρi]; exact indexAt_array_run hd (hT _ _ hei) hb1 w) ?_
              rw [Nat.add_assoc]; exact .ptr _ _ _ _ _ hb
            · simp at h; subst h
              obtain ⟨c, o', hρ, hmk⟩ := hx.iptr_inv
              refine .of_value (by rw [hρ, hρi]; exact indexAt_array_run hd (hT _ _ hei) hb1 w) ?_
              rw [Nat.add_assoc]; exact hmk _
            · simp at h
          · simp at h
        · simp at h
      · simp at h
    · simp at h
  case index t x i =>
    split at h
    · rename_i ti a iv hti ha hi
      obtain ⟨d, hd, hkk⟩ := (hT _ _ hti).und
      have hx := hE x (by simp [Op.operands]) _ ha
      have hix := hE i (by simp [Op.operands]) _ hi
      split at h
      · rename_i s n hq hn
        rw [hq] at hkk
        cases d <;> simp [descOk] at hkk
        obtain ⟨k, hρi⟩ := natOf_val hn hix
        split at h
        · rename_i c hc
          simp at h; subst h
          refine .of_value (val := .int .u8 c.toNat) ?_ (.int _ _)
          have hb : (⟨s.toArray⟩ : ByteArray)[n]? = some c := by
            have hlt := (List.getElem?_eq_some_iff.1 hc).1
            have hlt' : n < (⟨s.toArray⟩ : ByteArray).size := by simpa [ByteArray.size] using hlt
            rw [getElem?_pos (⟨s.toArray⟩ : ByteArray) n hlt']
            congr 1
            exact (List.getElem?_eq_some_iff.1 hc).2
          simp [Instr.index, hρi, hx.str_inv, asIntOf, run_und hd, hb]
        · simp at h
      · rename_i len e cs n hq hn
        rw [hq] at hkk
        cases descOk_arr hkk
        obtain ⟨k, hρi⟩ := natOf_val hn hix
        split at h
        · rename_i ei hei
          split at h
          · rename_i hb1
            obtain ⟨vs, hρ, hvs, ho⟩ := hx.agg_inv
            obtain ⟨val, h2, h3, _⟩ := part_sound (hT _ _ hei) hvs ho h w
            exact .of_value (val := val) (by simp [Instr.index, hρ, hρi, asIntOf, run_und hd, hb1, (hT _ _ hei).run_size, h2]) h3
          · simp at h
        · simp at h
      · simp at h
    · simp at h
  case lookup t x i ok =>
    split at h
    · rename_i ti mv k hti hmv hk'
      have hx := hE x (by simp [Op.operands]) _ hmv
      have hi := hE i (by simp [Op.operands]) _ hk'
      obtain ⟨d, hd, hkk⟩ := (hT _ _ hti).und
      split at h
      · rename_i kt e hq
        rw [hq] at hkk
        cases descOk_map hkk
        split at h
        · rename_i ei ki hei hki
          obtain ⟨dk, hdk, hkd⟩ := (hT _ _ hki).und
          obtain ⟨z, hz, hzr, hza, hzb⟩ := (hT _ _ hei).run_zero (w := w)
          split at h
          · rename_i es hes
            split at h
            · rename_i hkey
              simp only [Bool.and_eq_true] at hkey
              -- the entries
              have hent : ∃ ME : Array MapEntry, ((ρ x = .map none ∧ ME = #[]) ∨ ∃ c k, ρ x = .map (some c) ∧ w.heap[c]? = some (.map ME k)) ∧ es.length = ME.toList.length ∧
                  ∀ (i : Nat) (e : AV × AV) (x : MapEntry), es[i]? = some e → ME.toList[i]? = some x → VR L R e.1 x.key ∧ VR L R e.2 x.val := by
                split at hes
                · rename_i b
                  obtain ⟨c, o', sz, hρ, hb⟩ := hx.map_inv
                  split at hes
                  · rename_i es' hget
                    simp at hes; subst hes
                    have hB := hS.blk b _ hb
                    rw [hget] at hB
                    obtain ⟨ME, ck, h1, h2, h3⟩ := hB
                    refine ⟨ME, .inr ⟨c, ck, hρ, h1⟩, by simpa using h2.symm, fun i e x he hx' => ?_⟩
                    obtain ⟨h4, h5, _⟩ := h3 i e x he (by simpa using hx')
                    exact ⟨h4, h5⟩
                  · simp at hes
                · simp at hes; subst hes
                  exact ⟨#[], .inl ⟨hx.nil_inv.1, rfl⟩, rfl, by simp⟩
                · simp at hes
              obtain ⟨ME, hME, hlen, hrel⟩ := hent
              have hck := checkKey_run (w := w) hdk hkd hkey.1 (ρ i)
              have hfk : ∀ r', Instr.findNow dk (ρ i) ME.toList 0 = some r' → (Instr.findKey kt (ρ i) ME.toList).run P w = .ok r' w := fun r' h1 => by simp [Instr.findKey, run_und hdk, h1]
              split at h
              · rename_i j a hf
                simp at h; subst h
                obtain ⟨r', h1, h2⟩ := findNow_sound hkd hkey.1 hi es ME.toList 0 _ hlen hrel hf
                rcases h2 with ⟨h2, _⟩ | ⟨j', a', v', h2, h3, h4, _⟩
                · simp at h2
                · simp at h2; obtain ⟨rfl, rfl⟩ := h2
                  subst h3
                  refine .of_value (lookup_run hd hME hck (hfk _ h1) hz ok) ?_
                  cases ok
                  · exact h4
                  · exact .mk_tup (.cons h4 (.cons (.bool true) (.nil _ _)))
              · rename_i hf
                obtain ⟨r', h1, h2⟩ := findNow_sound hkd hkey.1 hi es ME.toList 0 _ hlen hrel hf
                rcases h2 with ⟨_, h2⟩ | ⟨j', a', v', h2, _⟩
                · subst h2
                  split at h
                  · rename_i zv hzv
                    have hzz : VR L R zv z := by
                      obtain ⟨e1, e2⟩ := hzr L R
                      unfold zeroAV at hzv
                      split at hzv
                      · rename_i hag
                        simp at hzv; subst hzv
                        obtain ⟨cs, rfl⟩ := hza hag
                        exact .mk_agg e1 e2
                      · rename_i hag
                        split at hzv
                        · rename_i x0 hx0
                          simp at hzv; subst hzv
                          rw [hzb hag, hx0] at e1
                          exact e1.head
                        · simp at hzv
                    simp at h; subst h
                    refine .of_value (lookup_run hd hME hck (hfk _ h1) hz ok) ?_
                    cases ok
                    · exact hzz
                    · exact .mk_tup (.cons hzz (.cons (.bool false) (.nil _ _)))
                  · simp at h
                · simp at h2
              · simp at h
            · simp at h
          · simp at h
        · simp at h
      · simp at h
    · simp at h
  case extract x i =>
    split at h
    · rename_i l hx
      obtain ⟨vs, hρ, hvs⟩ := (hE x (by simp [Op.operands]) _ hx).tup_inv
      obtain ⟨val, h1, h2⟩ := hvs.get h
      exact .of_value (val := val) (by simp only [Instr.extract, hρ]; rw [show vs[i]? = some val by simpa using h1]; rfl) h2
    · simp at h
  case call c =>
    split at h
    · rename_i b args hc hargs
      have hv := ER.opnds (ρ := ρ) (fun x hx => hE x (by simp only [Op.operands, Call.operands, hc]; simpa using hx)) hargs
      have hres : ∀ s : Sem Value, (∀ cn, Go.builtin b c.argTypes o.type cn (c.args.map ρ) = (do pure (.value (← s)))) →
          ∀ val, s.run P w = .ok val w → VR L R v val → Plain P L R w (do let d ← resolve ρ c o.type; invoke d.target d.args) v := by
        intro s hs val hrun hvr
        refine ⟨val, ?_, hvr⟩
        simp only [resolve, hc, Sem.run_bind, Sem.run_pure, Result.andThen_ok, invoke, hs, hrun]
      unfold builtinPL at h
      split at h
      · -- len
        rename_i x
        split at h
        · rename_i ti hti
          obtain ⟨t0, ht0, htt⟩ := Option.bind_eq_some_iff.1 hti
          obtain ⟨d, hd, hk2⟩ := (hT _ _ htt).und
          obtain ⟨xv, vs, hcons, hxv, hvs⟩ := hv.inv_cons
          have hx0 : (c.args.map ρ)[0]? = some xv := by
            have : (c.args.map ρ).toList[0]? = some xv := by rw [Array.toList_map, hcons]; rfl
            simpa using this
          have hlen : ∀ n : Nat, ((Builtin.len_ c.argTypes o.type (c.args.map ρ)).run P w = .ok (goInt n) w) → v = .int .i64 n → Plain P L R w (do let d ← resolve ρ c o.type; invoke d.target d.args) v := by
            intro n h1 h2
            subst h2
            exact hres _ (fun _ => rfl) _ h1 (.int _ _)
          split at h
          · rename_i s hq
            simp at h; rw [hq] at hk2
            cases d <;> simp only [descOk, Bool.false_eq_true] at hk2
            refine hlen s.length ?_ h.symm
            rw [hxv.str_inv] at hx0
            have hsz : (⟨s.toArray⟩ : ByteArray).size = s.length := by simp [ByteArray.size]
            simp [Builtin.len_, ht0, hx0, run_und hd, hsz]
          · rename_i n e hq
            simp at h; rw [hq] at hk2
            cases descOk_arr hk2
            refine hlen n ?_ h.symm
            simp [Builtin.len_, ht0, hx0, run_und hd]
          · rename_i e hq
            simp at h; rw [hq] at hk2
            cases descOk_sl hk2
            refine hlen 0 ?_ h.symm
            rw [hxv.nsl_inv] at hx0
            simp [Builtin.len_, ht0, hx0, run_und hd]
          · rename_i e nn m es hq
            simp at h; rw [hq] at hk2
            cases descOk_sl hk2
            refine hlen es.length ?_ h.symm
            cases hxv with
            | immNil _ => simp [Builtin.len_, ht0, hx0, run_und hd]
            | imm _ _ _ c0 o0 cap f hm ho hr hv' hc' => simp [Builtin.len_, ht0, hx0, run_und hd]
          · rename_i e b0 off len m cap ex hq
            simp at h; rw [hq] at hk2
            cases descOk_sl hk2
            refine hlen len ?_ h.symm
            cases hxv with | ref _ _ _ _ _ _ c0 o0 sz cap' hL hl hc' hex hr => simp [Builtin.len_, ht0, hx0, run_und hd]
          · rename_i k0 e b0 hq
            rw [hq] at hk2
            cases descOk_map hk2
            split at h
            · rename_i es hget
              simp at h
              obtain ⟨c0, o0, sz, rfl, hb⟩ := hxv.map_inv
              have hB := hS.blk b0 _ hb
              rw [hget] at hB
              obtain ⟨ME, ck, h1, h2, h3⟩ := hB
              refine hlen es.length ?_ h.symm
              simp only at h1
              simp [Builtin.len_, ht0, hx0, run_und hd, run_getObj_my h1, h2]
            · simp at h
          · rename_i k0 e hq
            simp at h; rw [hq] at hk2
            cases descOk_map hk2
            refine hlen 0 ?_ h.symm
            rw [hxv.nil_inv.1] at hx0
            simp [Builtin.len_, ht0, hx0, run_und hd]
          · simp at h
        · simp at h
      · -- cap
        rename_i x
        split at h
        · rename_i ti hti
          obtain ⟨t0, ht0, htt⟩ := Option.bind_eq_some_iff.1 hti
          obtain ⟨d, hd, hk2⟩ := (hT _ _ htt).und
          obtain ⟨xv, vs, hcons, hxv, hvs⟩ := hv.inv_cons
          have hx0 : (c.args.map ρ)[0]? = some xv := by
            have : (c.args.map ρ).toList[0]? = some xv := by rw [Array.toList_map, hcons]; rfl
            simpa using this
          split at h
          · rename_i e b0 off len m cap hq
            simp at h; subst h; rw [hq] at hk2
            cases descOk_sl hk2
            cases hxv with
            | ref _ _ _ _ _ _ c0 o0 sz cap' hL hl hc' hex hr =>
              refine hres _ (fun _ => rfl) (goInt cap) ?_ (.int _ _)
              simp [Builtin.cap_, ht0, hx0, run_und hd, hex rfl]
          · rename_i e hq
            simp at h; subst h; rw [hq] at hk2
            cases descOk_sl hk2
            refine hres _ (fun _ => rfl) (goInt 0) ?_ (.int _ _)
            rw [hxv.nsl_inv] at hx0
            simp [Builtin.cap_, ht0, hx0, run_und hd]
          · simp at h
        · simp at h
      · -- min
        rename_i k a k' b'
        split at h
        · rename_i hkk
          cases kEq_eq hkk
          simp at h; subst h
          obtain ⟨xv, vs, hcons, hxv, hvs⟩ := hv.inv_cons
          obtain ⟨yv, vs', rfl, hyv, hvs'⟩ := hvs.inv_cons
          cases hvs'.inv_nil
          refine hres _ (fun _ => rfl) (.int k (if b' < a then b' else a)) ?_ (.int _ _)
          simp only [Builtin.min_, Array.toList_map, hcons, hxv.int_inv, hyv.int_inv]
          rfl
        · simp at h
      · -- max
        rename_i k a k' b'
        split at h
        · rename_i hkk
          cases kEq_eq hkk
          simp at h; subst h
          obtain ⟨xv, vs, hcons, hxv, hvs⟩ := hv.inv_cons
          obtain ⟨yv, vs', rfl, hyv, hvs'⟩ := hvs.inv_cons
          cases hvs'.inv_nil
          refine hres _ (fun _ => rfl) (.int k (if a < b' then b' else a)) ?_ (.int _ _)
          simp only [Builtin.max_, Array.toList_map, hcons, hxv.int_inv, hyv.int_inv]
          rfl
        · simp at h
      · simp at h
    · simp at h

end Go.Ab
