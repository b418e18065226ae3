/- Part of the proof over the seat YtlphbbfoihcgkaaGreat: AbSeat. No conditions of its own. -/
import Derived.Shelf.Spec.SlicesInsertGrow
import Derived.Test.YtlphbbfoihcgkaaGreatAbInsert
import Derived.Test.YtlphbbfoihcgkaaGreatAbFacts
namespace Go.Proofs.YtlphbbfoihcgkaaGreat
open Go.Shelf Go.RowKit Go.Lib
set_option maxHeartbeats 4000000 in
set_option maxRecDepth 100000 in
theorem ins197_shift (c o n cap i vb voff vc : Nat) (x1 x2 : Value) (w W1 W2 : World) (hi : i < n) (hroom : n + 1 ≤ cap) (hn40 : n < 1099511627776)
    (hcp1 : ∀ ty dc sc, (Builtin.copy_ #[23, 23] ty #[.slice (some ⟨c, o + (i + 1) * 2, none⟩) (n - i) dc, .slice (some ⟨c, o + i * 2, none⟩) (n + 1 - i) sc]).run Tryz.prog w.drew = .ok x1 W1)
    (hcp2 : ∀ ty dc, (Builtin.copy_ #[23, 23] ty #[.slice (some ⟨c, o + i * 2, none⟩) (n + 1 - i) dc, .slice (some ⟨vb, voff, none⟩) 1 vc]).run Tryz.prog W1 = .ok x2 W2)
    (hov : ∀ lb cb, (callFunc 236 #[.slice (some ⟨vb, voff, none⟩) 1 vc, .slice (some ⟨c, o + (i + 1) * 2, none⟩) lb cb]).run Tryz.prog w = .ok (.value (.bool false)) w) :
    Calls Tryz.prog 197 #[.slice (some ⟨c, o, none⟩) n cap, .int .i64 i, .slice (some ⟨vb, voff, none⟩) 1 vc] w fun e w' =>
      e = .returned (.slice (some ⟨c, o, none⟩) (n + 1) cap) ∧ w' = W2 := by
  have hw1 : IntKind.i64.wrap ((i : Int) + 1) = (i : Int) + 1 := by rw [IntKind.wrap_i64]; omega
  have hw2 : IntKind.i64.wrap ((n : Int) + 1) = (n : Int) + 1 := by rw [IntKind.wrap_i64]; omega
  have hz2 : ¬ ((i : Int) = (n : Int)) := by omega
  have hb1 : (0 : Int) ≤ (i : Int) + 1 := by omega
  have hin : i ≤ n := by omega
  have htn : ((i : Int) + 1).toNat = i + 1 := by omega
  have hb2 : ¬ (cap = i + 1) := by omega
  have hb3 : (i : Int) ≤ (n : Int) := by omega
  have hb4 : ¬ (cap = i) := by omega
  have hb5 : (i : Int) ≤ (n : Int) + 1 := by omega
  have mixed : Tryz.prog.follows .mixedOrders = true := by kernel_rfl
  go_enter Tryz.func197, Tryz.ntmps197
  go_wp2_with (simp only [hov])
  go_region_law_o (refine step_copy_runI rfl _ _ 23 23 rfl _ _ (by simp [Act.eval, Act.put]) (by simp [Act.eval, Act.put]) (hcp1 _ _ _) ?_)
  go_wp2_with (at_builtin; refine wpList_copy_runI _ rfl _ _ 23 23 rfl _ _ rfl rfl (hcp2 _ _) ?_)
  go_ret
  exact ⟨rfl, rfl⟩
set_option maxHeartbeats 4000000 in
set_option maxRecDepth 100000 in
theorem ins197_grow (c o n cap i vb voff vc c2 G : Nat) (x1 x2 : Value) (w W1 W2 W3 : World) (hi : i < n) (hroom : ¬ n + 1 ≤ cap) (hnc : n ≤ cap) (hn40 : n < 1099511627776) (hG : n + 1 ≤ G)
    (hrz : ∀ ty, (Builtin.append_ #[23, 3] ty #[.slice (some ⟨c, o, none⟩) i cap, .int .i64 ((n : Int) + 1 - i)]).run Tryz.prog w = .ok (.slice (some ⟨c2, 0, none⟩) (n + 1) G) W1)
    (hcpA : ∀ ty dc, (Builtin.copy_ #[23, 23] ty #[.slice (some ⟨c2, i * 2, none⟩) (n + 1 - i) dc, .slice (some ⟨vb, voff, none⟩) 1 vc]).run Tryz.prog W1 = .ok x1 W2)
    (hcpB : ∀ ty dc sc, (Builtin.copy_ #[23, 23] ty #[.slice (some ⟨c2, (i + 1) * 2, none⟩) (n - i) dc, .slice (some ⟨c, o + i * 2, none⟩) (n - i) sc]).run Tryz.prog W2.drew = .ok x2 W3) :
    Calls Tryz.prog 197 #[.slice (some ⟨c, o, none⟩) n cap, .int .i64 i, .slice (some ⟨vb, voff, none⟩) 1 vc] w fun e w' =>
      e = .returned (.slice (some ⟨c2, 0, none⟩) (n + 1) G) ∧ w' = W3 := by
  have hw1 : IntKind.i64.wrap ((i : Int) + 1) = (i : Int) + 1 := by rw [IntKind.wrap_i64]; omega
  have hw2 : IntKind.i64.wrap ((n : Int) + 1) = (n : Int) + 1 := by rw [IntKind.wrap_i64]; omega
  have hw3 : IntKind.i64.wrap ((n : Int) + 1 - i) = (n : Int) + 1 - i := by rw [IntKind.wrap_i64]; omega
  have hz2 : ¬ ((i : Int) = (n : Int)) := by omega
  have hz3 : (cap : Int) < (n : Int) + 1 := by omega
  have hb1 : (0 : Int) ≤ (i : Int) + 1 := by omega
  have hin : i ≤ n := by omega
  have hic : i ≤ cap := by omega
  have htn : ((i : Int) + 1).toNat = i + 1 := by omega
  have hb3 : (i : Int) ≤ (n : Int) := by omega
  have hb5 : (i : Int) ≤ (n : Int) + 1 := by omega
  have hci : ¬ (cap = i) := by omega
  have hGi : ¬ (G = i) := by omega
  have hGim : ¬ (G = i + 1) := by omega
  have mixed : Tryz.prog.follows .mixedOrders = true := by kernel_rfl
  go_enter Tryz.func197, Tryz.ntmps197
  go_wp2_with (first
    | (at_builtin; refine Lib.wpList_append_run _ rfl _ _ _ _ rfl _ _ rfl rfl _ _ (hrz _) ?_)
    | (at_builtin; refine wpList_copy_runI _ rfl _ _ 23 23 rfl _ _ rfl rfl (hcpA _ _) ?_))
  go_region_law_o (refine step_copy_runI rfl _ _ 23 23 rfl _ _ (by simp [Act.eval, Act.put]) (by simp [Act.eval, Act.put]) (hcpB _ _ _) ?_)
  go_wp2
  go_ret
  exact ⟨rfl, rfl⟩

set_option maxHeartbeats 4000000 in
set_option maxRecDepth 100000 in
theorem ins197_end (val : Value) (n : Nat) (base : Option Addr) (cap : Nat) (vb voff vc : Nat) (w W1 : World)
    (hap : ∀ ty, (Builtin.append_ #[23, 23] ty #[.slice base n cap, .slice (some ⟨vb, voff, none⟩) 1 vc]).run Tryz.prog w = .ok val W1) :
    Calls Tryz.prog 197 #[.slice base n cap, .int .i64 n, .slice (some ⟨vb, voff, none⟩) 1 vc] w fun e w' => e = .returned val ∧ w' = W1 := by
  have hin : n ≤ n := Nat.le_refl _
  have hnn : ((n : Int) == (n : Int)) = true := by simp
  have hnn2 : ((n : Int) = (n : Int)) := rfl
  go_enter Tryz.func197, Tryz.ntmps197
  go_wp2_with (at_builtin; refine Lib.wpList_append_run _ rfl _ _ _ _ rfl _ _ rfl rfl _ _ (hap _) ?_)
  all_goals (go_ret; exact ⟨rfl, rfl⟩)

theorem insWalk197 : Go.Ab.InsWalk Tryz.prog 197 236 23 73 where
  call := Tryz.call197
  und := Tryz.underlying23
  und3 := Tryz.underlying3
  over := fun args w => run_callFunc_extern Tryz.func236 (by kernel_rfl) (by kernel_rfl) (by kernel_rfl) (e := Extern.SlicesOverlaps.overlaps #[23, 23] #[4]) (by kernel_rfl) args w
  shift := fun c o n cap i vb voff vc x1 x2 w W1 W2 h1 h2 h3 h4 h5 h6 => ins197_shift c o n cap i vb voff vc x1 x2 w W1 W2 h1 h2 h3 h4 h5 h6
  grow := fun c o n cap i vb voff vc c2 G x1 x2 w W1 W2 W3 h1 h2 h3 h4 h5 h6 h7 h8 => ins197_grow c o n cap i vb voff vc c2 G x1 x2 w W1 W2 W3 h1 h2 h3 h4 h5 h6 h7 h8
  fin := fun val n base cap vb voff vc w W1 h => ins197_end val n base cap vb voff vc w W1 h

set_option maxHeartbeats 4000000 in
set_option maxRecDepth 100000 in
theorem ins232_shift (c o n cap i vb voff vc : Nat) (x1 x2 : Value) (w W1 W2 : World) (hi : i < n) (hroom : n + 1 ≤ cap) (hn40 : n < 1099511627776)
    (hcp1 : ∀ ty dc sc, (Builtin.copy_ #[24, 24] ty #[.slice (some ⟨c, o + (i + 1) * 2, none⟩) (n - i) dc, .slice (some ⟨c, o + i * 2, none⟩) (n + 1 - i) sc]).run Tryz.prog w.drew = .ok x1 W1)
    (hcp2 : ∀ ty dc, (Builtin.copy_ #[24, 24] ty #[.slice (some ⟨c, o + i * 2, none⟩) (n + 1 - i) dc, .slice (some ⟨vb, voff, none⟩) 1 vc]).run Tryz.prog W1 = .ok x2 W2)
    (hov : ∀ lb cb, (callFunc 260 #[.slice (some ⟨vb, voff, none⟩) 1 vc, .slice (some ⟨c, o + (i + 1) * 2, none⟩) lb cb]).run Tryz.prog w = .ok (.value (.bool false)) w) :
    Calls Tryz.prog 232 #[.slice (some ⟨c, o, none⟩) n cap, .int .i64 i, .slice (some ⟨vb, voff, none⟩) 1 vc] w fun e w' =>
      e = .returned (.slice (some ⟨c, o, none⟩) (n + 1) cap) ∧ w' = W2 := by
  have hw1 : IntKind.i64.wrap ((i : Int) + 1) = (i : Int) + 1 := by rw [IntKind.wrap_i64]; omega
  have hw2 : IntKind.i64.wrap ((n : Int) + 1) = (n : Int) + 1 := by rw [IntKind.wrap_i64]; omega
  have hz2 : ¬ ((i : Int) = (n : Int)) := by omega
  have hb1 : (0 : Int) ≤ (i : Int) + 1 := by omega
  have hin : i ≤ n := by omega
  have htn : ((i : Int) + 1).toNat = i + 1 := by omega
  have hb2 : ¬ (cap = i + 1) := by omega
  have hb3 : (i : Int) ≤ (n : Int) := by omega
  have hb4 : ¬ (cap = i) := by omega
  have hb5 : (i : Int) ≤ (n : Int) + 1 := by omega
  have mixed : Tryz.prog.follows .mixedOrders = true := by kernel_rfl
  go_enter Tryz.func232, Tryz.ntmps232
  go_wp2_with (simp only [hov])
  go_region_law_o (refine step_copy_runI rfl _ _ 24 24 rfl _ _ (by simp [Act.eval, Act.put]) (by simp [Act.eval, Act.put]) (hcp1 _ _ _) ?_)
  go_wp2_with (at_builtin; refine wpList_copy_runI _ rfl _ _ 24 24 rfl _ _ rfl rfl (hcp2 _ _) ?_)
  go_ret
  exact ⟨rfl, rfl⟩
set_option maxHeartbeats 4000000 in
set_option maxRecDepth 100000 in
theorem ins232_grow (c o n cap i vb voff vc c2 G : Nat) (x1 x2 : Value) (w W1 W2 W3 : World) (hi : i < n) (hroom : ¬ n + 1 ≤ cap) (hnc : n ≤ cap) (hn40 : n < 1099511627776) (hG : n + 1 ≤ G)
    (hrz : ∀ ty, (Builtin.append_ #[24, 3] ty #[.slice (some ⟨c, o, none⟩) i cap, .int .i64 ((n : Int) + 1 - i)]).run Tryz.prog w = .ok (.slice (some ⟨c2, 0, none⟩) (n + 1) G) W1)
    (hcpA : ∀ ty dc, (Builtin.copy_ #[24, 24] ty #[.slice (some ⟨c2, i * 2, none⟩) (n + 1 - i) dc, .slice (some ⟨vb, voff, none⟩) 1 vc]).run Tryz.prog W1 = .ok x1 W2)
    (hcpB : ∀ ty dc sc, (Builtin.copy_ #[24, 24] ty #[.slice (some ⟨c2, (i + 1) * 2, none⟩) (n - i) dc, .slice (some ⟨c, o + i * 2, none⟩) (n - i) sc]).run Tryz.prog W2.drew = .ok x2 W3) :
    Calls Tryz.prog 232 #[.slice (some ⟨c, o, none⟩) n cap, .int .i64 i, .slice (some ⟨vb, voff, none⟩) 1 vc] w fun e w' =>
      e = .returned (.slice (some ⟨c2, 0, none⟩) (n + 1) G) ∧ w' = W3 := by
  have hw1 : IntKind.i64.wrap ((i : Int) + 1) = (i : Int) + 1 := by rw [IntKind.wrap_i64]; omega
  have hw2 : IntKind.i64.wrap ((n : Int) + 1) = (n : Int) + 1 := by rw [IntKind.wrap_i64]; omega
  have hw3 : IntKind.i64.wrap ((n : Int) + 1 - i) = (n : Int) + 1 - i := by rw [IntKind.wrap_i64]; omega
  have hz2 : ¬ ((i : Int) = (n : Int)) := by omega
  have hz3 : (cap : Int) < (n : Int) + 1 := by omega
  have hb1 : (0 : Int) ≤ (i : Int) + 1 := by omega
  have hin : i ≤ n := by omega
  have hic : i ≤ cap := by omega
  have htn : ((i : Int) + 1).toNat = i + 1 := by omega
  have hb3 : (i : Int) ≤ (n : Int) := by omega
  have hb5 : (i : Int) ≤ (n : Int) + 1 := by omega
  have hci : ¬ (cap = i) := by omega
  have hGi : ¬ (G = i) := by omega
  have hGim : ¬ (G = i + 1) := by omega
  have mixed : Tryz.prog.follows .mixedOrders = true := by kernel_rfl
  go_enter Tryz.func232, Tryz.ntmps232
  go_wp2_with (first
    | (at_builtin; refine Lib.wpList_append_run _ rfl _ _ _ _ rfl _ _ rfl rfl _ _ (hrz _) ?_)
    | (at_builtin; refine wpList_copy_runI _ rfl _ _ 24 24 rfl _ _ rfl rfl (hcpA _ _) ?_))
  go_region_law_o (refine step_copy_runI rfl _ _ 24 24 rfl _ _ (by simp [Act.eval, Act.put]) (by simp [Act.eval, Act.put]) (hcpB _ _ _) ?_)
  go_wp2
  go_ret
  exact ⟨rfl, rfl⟩

set_option maxHeartbeats 4000000 in
set_option maxRecDepth 100000 in
theorem ins232_end (val : Value) (n : Nat) (base : Option Addr) (cap : Nat) (vb voff vc : Nat) (w W1 : World)
    (hap : ∀ ty, (Builtin.append_ #[24, 24] ty #[.slice base n cap, .slice (some ⟨vb, voff, none⟩) 1 vc]).run Tryz.prog w = .ok val W1) :
    Calls Tryz.prog 232 #[.slice base n cap, .int .i64 n, .slice (some ⟨vb, voff, none⟩) 1 vc] w fun e w' => e = .returned val ∧ w' = W1 := by
  have hin : n ≤ n := Nat.le_refl _
  have hnn : ((n : Int) == (n : Int)) = true := by simp
  have hnn2 : ((n : Int) = (n : Int)) := rfl
  go_enter Tryz.func232, Tryz.ntmps232
  go_wp2_with (at_builtin; refine Lib.wpList_append_run _ rfl _ _ _ _ rfl _ _ rfl rfl _ _ (hap _) ?_)
  all_goals (go_ret; exact ⟨rfl, rfl⟩)

theorem insWalk232 : Go.Ab.InsWalk Tryz.prog 232 260 24 57 where
  call := Tryz.call232
  und := Tryz.underlying24
  und3 := Tryz.underlying3
  over := fun args w => run_callFunc_extern Tryz.func260 (by kernel_rfl) (by kernel_rfl) (by kernel_rfl) (e := Extern.SlicesOverlaps.overlaps #[24, 24] #[4]) (by kernel_rfl) args w
  shift := fun c o n cap i vb voff vc x1 x2 w W1 W2 h1 h2 h3 h4 h5 h6 => ins232_shift c o n cap i vb voff vc x1 x2 w W1 W2 h1 h2 h3 h4 h5 h6
  grow := fun c o n cap i vb voff vc c2 G x1 x2 w W1 W2 W3 h1 h2 h3 h4 h5 h6 h7 h8 => ins232_grow c o n cap i vb voff vc c2 G x1 x2 w W1 W2 W3 h1 h2 h3 h4 h5 h6 h7 h8
  fin := fun val n base cap vb voff vc w W1 h => ins232_end val n base cap vb voff vc w W1 h

set_option maxHeartbeats 4000000 in
set_option maxRecDepth 100000 in
theorem ins238_shift (c o n cap i vb voff vc : Nat) (x1 x2 : Value) (w W1 W2 : World) (hi : i < n) (hroom : n + 1 ≤ cap) (hn40 : n < 1099511627776)
    (hcp1 : ∀ ty dc sc, (Builtin.copy_ #[25, 25] ty #[.slice (some ⟨c, o + (i + 1) * 2, none⟩) (n - i) dc, .slice (some ⟨c, o + i * 2, none⟩) (n + 1 - i) sc]).run Tryz.prog w.drew = .ok x1 W1)
    (hcp2 : ∀ ty dc, (Builtin.copy_ #[25, 25] ty #[.slice (some ⟨c, o + i * 2, none⟩) (n + 1 - i) dc, .slice (some ⟨vb, voff, none⟩) 1 vc]).run Tryz.prog W1 = .ok x2 W2)
    (hov : ∀ lb cb, (callFunc 263 #[.slice (some ⟨vb, voff, none⟩) 1 vc, .slice (some ⟨c, o + (i + 1) * 2, none⟩) lb cb]).run Tryz.prog w = .ok (.value (.bool false)) w) :
    Calls Tryz.prog 238 #[.slice (some ⟨c, o, none⟩) n cap, .int .i64 i, .slice (some ⟨vb, voff, none⟩) 1 vc] w fun e w' =>
      e = .returned (.slice (some ⟨c, o, none⟩) (n + 1) cap) ∧ w' = W2 := by
  have hw1 : IntKind.i64.wrap ((i : Int) + 1) = (i : Int) + 1 := by rw [IntKind.wrap_i64]; omega
  have hw2 : IntKind.i64.wrap ((n : Int) + 1) = (n : Int) + 1 := by rw [IntKind.wrap_i64]; omega
  have hz2 : ¬ ((i : Int) = (n : Int)) := by omega
  have hb1 : (0 : Int) ≤ (i : Int) + 1 := by omega
  have hin : i ≤ n := by omega
  have htn : ((i : Int) + 1).toNat = i + 1 := by omega
  have hb2 : ¬ (cap = i + 1) := by omega
  have hb3 : (i : Int) ≤ (n : Int) := by omega
  have hb4 : ¬ (cap = i) := by omega
  have hb5 : (i : Int) ≤ (n : Int) + 1 := by omega
  have mixed : Tryz.prog.follows .mixedOrders = true := by kernel_rfl
  go_enter Tryz.func238, Tryz.ntmps238
  go_wp2_with (simp only [hov])
  go_region_law_o (refine step_copy_runI rfl _ _ 25 25 rfl _ _ (by simp [Act.eval, Act.put]) (by simp [Act.eval, Act.put]) (hcp1 _ _ _) ?_)
  go_wp2_with (at_builtin; refine wpList_copy_runI _ rfl _ _ 25 25 rfl _ _ rfl rfl (hcp2 _ _) ?_)
  go_ret
  exact ⟨rfl, rfl⟩
set_option maxHeartbeats 4000000 in
set_option maxRecDepth 100000 in
theorem ins238_grow (c o n cap i vb voff vc c2 G : Nat) (x1 x2 : Value) (w W1 W2 W3 : World) (hi : i < n) (hroom : ¬ n + 1 ≤ cap) (hnc : n ≤ cap) (hn40 : n < 1099511627776) (hG : n + 1 ≤ G)
    (hrz : ∀ ty, (Builtin.append_ #[25, 3] ty #[.slice (some ⟨c, o, none⟩) i cap, .int .i64 ((n : Int) + 1 - i)]).run Tryz.prog w = .ok (.slice (some ⟨c2, 0, none⟩) (n + 1) G) W1)
    (hcpA : ∀ ty dc, (Builtin.copy_ #[25, 25] ty #[.slice (some ⟨c2, i * 2, none⟩) (n + 1 - i) dc, .slice (some ⟨vb, voff, none⟩) 1 vc]).run Tryz.prog W1 = .ok x1 W2)
    (hcpB : ∀ ty dc sc, (Builtin.copy_ #[25, 25] ty #[.slice (some ⟨c2, (i + 1) * 2, none⟩) (n - i) dc, .slice (some ⟨c, o + i * 2, none⟩) (n - i) sc]).run Tryz.prog W2.drew = .ok x2 W3) :
    Calls Tryz.prog 238 #[.slice (some ⟨c, o, none⟩) n cap, .int .i64 i, .slice (some ⟨vb, voff, none⟩) 1 vc] w fun e w' =>
      e = .returned (.slice (some ⟨c2, 0, none⟩) (n + 1) G) ∧ w' = W3 := by
  have hw1 : IntKind.i64.wrap ((i : Int) + 1) = (i : Int) + 1 := by rw [IntKind.wrap_i64]; omega
  have hw2 : IntKind.i64.wrap ((n : Int) + 1) = (n : Int) + 1 := by rw [IntKind.wrap_i64]; omega
  have hw3 : IntKind.i64.wrap ((n : Int) + 1 - i) = (n : Int) + 1 - i := by rw [IntKind.wrap_i64]; omega
  have hz2 : ¬ ((i : Int) = (n : Int)) := by omega
  have hz3 : (cap : Int) < (n : Int) + 1 := by omega
  have hb1 : (0 : Int) ≤ (i : Int) + 1 := by omega
  have hin : i ≤ n := by omega
  have hic : i ≤ cap := by omega
  have htn : ((i : Int) + 1).toNat = i + 1 := by omega
  have hb3 : (i : Int) ≤ (n : Int) := by omega
  have hb5 : (i : Int) ≤ (n : Int) + 1 := by omega
  have hci : ¬ (cap = i) := by omega
  have hGi : ¬ (G = i) := by omega
  have hGim : ¬ (G = i + 1) := by omega
  have mixed : Tryz.prog.follows .mixedOrders = true := by kernel_rfl
  go_enter Tryz.func238, Tryz.ntmps238
  go_wp2_with (first
    | (at_builtin; refine Lib.wpList_append_run _ rfl _ _ _ _ rfl _ _ rfl rfl _ _ (hrz _) ?_)
    | (at_builtin; refine wpList_copy_runI _ rfl _ _ 25 25 rfl _ _ rfl rfl (hcpA _ _) ?_))
  go_region_law_o (refine step_copy_runI rfl _ _ 25 25 rfl _ _ (by simp [Act.eval, Act.put]) (by simp [Act.eval, Act.put]) (hcpB _ _ _) ?_)
  go_wp2
  go_ret
  exact ⟨rfl, rfl⟩

set_option maxHeartbeats 4000000 in
set_option maxRecDepth 100000 in
theorem ins238_end (val : Value) (n : Nat) (base : Option Addr) (cap : Nat) (vb voff vc : Nat) (w W1 : World)
    (hap : ∀ ty, (Builtin.append_ #[25, 25] ty #[.slice base n cap, .slice (some ⟨vb, voff, none⟩) 1 vc]).run Tryz.prog w = .ok val W1) :
    Calls Tryz.prog 238 #[.slice base n cap, .int .i64 n, .slice (some ⟨vb, voff, none⟩) 1 vc] w fun e w' => e = .returned val ∧ w' = W1 := by
  have hin : n ≤ n := Nat.le_refl _
  have hnn : ((n : Int) == (n : Int)) = true := by simp
  have hnn2 : ((n : Int) = (n : Int)) := rfl
  go_enter Tryz.func238, Tryz.ntmps238
  go_wp2_with (at_builtin; refine Lib.wpList_append_run _ rfl _ _ _ _ rfl _ _ rfl rfl _ _ (hap _) ?_)
  all_goals (go_ret; exact ⟨rfl, rfl⟩)

theorem insWalk238 : Go.Ab.InsWalk Tryz.prog 238 263 25 64 where
  call := Tryz.call238
  und := Tryz.underlying25
  und3 := Tryz.underlying3
  over := fun args w => run_callFunc_extern Tryz.func263 (by kernel_rfl) (by kernel_rfl) (by kernel_rfl) (e := Extern.SlicesOverlaps.overlaps #[25, 25] #[4]) (by kernel_rfl) args w
  shift := fun c o n cap i vb voff vc x1 x2 w W1 W2 h1 h2 h3 h4 h5 h6 => ins238_shift c o n cap i vb voff vc x1 x2 w W1 W2 h1 h2 h3 h4 h5 h6
  grow := fun c o n cap i vb voff vc c2 G x1 x2 w W1 W2 W3 h1 h2 h3 h4 h5 h6 h7 h8 => ins238_grow c o n cap i vb voff vc c2 G x1 x2 w W1 W2 W3 h1 h2 h3 h4 h5 h6 h7 h8
  fin := fun val n base cap vb voff vc w W1 h => ins238_end val n base cap vb voff vc w W1 h

open Go.Ab
noncomputable def ins197P : Prim := insertP ty73
noncomputable def ins232P : Prim := insertP ty57
noncomputable def ins238P : Prim := insertP ty64
set_option maxRecDepth 100000 in
theorem ins197Ok : PrimOk Tryz.prog 197 ins197P := insert_sound insWalk197 tyR73
set_option maxRecDepth 100000 in
theorem ins232Ok : PrimOk Tryz.prog 232 ins232P := insert_sound insWalk232 tyR57
set_option maxRecDepth 100000 in
theorem ins238Ok : PrimOk Tryz.prog 238 ins238P := insert_sound insWalk238 tyR64
noncomputable def prL : List (Nat × Prim) := [(197, ins197P), (232, ins232P), (238, ins238P)]
noncomputable def prT : Tr Prim := ((Tr.leaf.put 197 ins197P).put 232 ins232P).put 238 ins238P
set_option maxRecDepth 100000 in
theorem primsOk : PrimsOk Tryz.prog prT := by
  intro f p h
  have h1 : (f, p) ∈ prL := Tr.get_ofList (l := prL) h
  simp only [prL, List.mem_cons, Prod.mk.injEq, List.not_mem_nil, or_false] at h1
  rcases h1 with ⟨rfl, rfl⟩ | ⟨rfl, rfl⟩ | ⟨rfl, rfl⟩
  · exact ins197Ok
  · exact ins232Ok
  · exact ins238Ok
end Go.Proofs.YtlphbbfoihcgkaaGreat
