/- Part of the proof over the seat YtlphbbfoihcgkaaGreat: AbTable. No conditions of its own. -/
import Derived.Test.YtlphbbfoihcgkaaGreatAbSound
namespace Go.Ab
variable {P : Program}

/-! ### Tables -/

def Tr.ofList {α : Type} (l : List (Nat × α)) : Tr α := l.foldl (fun t x => t.put x.1 x.2) .leaf

theorem Tr.get_foldl {α : Type} : ∀ (l : List (Nat × α)) (t : Tr α) (n : Nat) (x : α), (l.foldl (fun t x => t.put x.1 x.2) t).get n = some x → t.get n = some x ∨ (n, x) ∈ l := by
  intro l
  induction l with
  | nil => intro t n x h; exact .inl h
  | cons y l ih =>
    intro t n x h
    rcases ih _ n x h with h | h
    · rw [Tr.get_put] at h
      split at h
      · rename_i e; cases h; subst e; exact .inr (by simp)
      · exact .inl h
    · exact .inr (by simp [h])

theorem Tr.get_ofList {α : Type} {l : List (Nat × α)} {n : Nat} {x : α} (h : (Tr.ofList l).get n = some x) : (n, x) ∈ l := by
  rcases Tr.get_foldl l .leaf n x h with h | h
  · cases h
  · exact h

theorem all_nil {α : Type} (p : α → Prop) : ∀ x ∈ ([] : List α), p x := by simp
theorem all_cons {α : Type} {p : α → Prop} {a : α} {l : List α} (h : p a) (k : ∀ x ∈ l, p x) : ∀ x ∈ a :: l, p x := by
  intro x hx
  rcases List.mem_cons.1 hx with rfl | hx
  · exact h
  · exact k x hx

theorem all_append {α : Type} {p : α → Prop} {a b : List α} (h : ∀ x ∈ a, p x) (k : ∀ x ∈ b, p x) : ∀ x ∈ a ++ b, p x := by
  intro x hx
  rcases List.mem_append.1 hx with hx | hx
  · exact h x hx
  · exact k x hx

def aggChk (b : Bool) (z : Value) : Bool := match b, z with
  | true, .agg _ => true
  | true, _ => false
  | false, .agg _ => false
  | false, .tuple _ => false
  | false, _ => true

def fldsChk (P : Program) (k : TK) : Bool := match k with
  | .st fs => fs.all fun x => (P.info? x.2).isSome
  | _ => true

def eqgChk (P : Program) (k : TK) (t : Nat) : Bool := match k with
  | .st _ => !P.stoodInHeld t && !P.eqGuardType P.depth t
  | _ => true

theorem TyRel.of {t : Nat} {ti : TI} {i : TypeInfo} {z : Value} {d : TypeDesc} (h1 : P.info? t = some i) (h2 : i.size = ti.sz) (h3 : i.bytes = ti.bytes) (h4 : i.zero = some z) (h5 : ofCells ofConst1 z.cells.toList = some ti.zero)
    (h6 : aggChk ti.isAgg z = true) (h7 : P.underlying t = some d) (h8 : descOk ti.k d = true) (h9 : fldsChk P ti.k = true) (h10 : eqgChk P ti.k t = true) : TyRel P t ti := by
  refine ⟨⟨i, h1, h2, h3, z, h4, h5, fun h => ?_, fun h => ?_⟩, ⟨d, h7, h8⟩, fun fs hk x hx => ?_, fun ⟨fs, hk⟩ => ?_⟩
  · rw [h] at h6
    cases z <;> simp_all [aggChk]
  · rw [h] at h6
    cases z <;> simp_all [aggChk, Value.cells]
  · rw [hk] at h9
    exact List.all_eq_true.1 h9 x hx
  · rw [hk] at h10
    simpa [eqgChk] using h10

theorem FnRel.of {f : Nat} {fi : FI} {fn : Func} (h1 : ∀ (args : Array Value) w, (callFunc f args).run P w = .ok (.enter f args) w) (h2 : P.funcs[f]? = some fn) (h3 : fn.body = some fi.body) (h4 : fn.ntmps = fi.ntmps)
    (h5 : fn.results = fi.results.toArray) (h6 : dstsOk fi.ntmps fi.body = true) : FnRel P f fi := ⟨h1, ⟨fn, h2, h3, h4, h5⟩, h6⟩

theorem tyOk_of {l : List (Nat × TI)} {t : Tr TI} (h : t = .ofList l) (k : ∀ x ∈ l, TyRel P x.1 x.2) : TyOk P t := fun n x e => k (n, x) (Tr.get_ofList (h ▸ e))
theorem fnsOk_of {l : List (Nat × FI)} {t : Tr FI} (h : t = .ofList l) (k : ∀ x ∈ l, FnRel P x.1 x.2) : FnsOk P t := fun n x e => k (n, x) (Tr.get_ofList (h ▸ e))

end Go.Ab
