/-
  The walk of PaceSplits: it returns true for every input. No condition beyond what fits a kind.
-/
import Derived.Test.YtaiamlbaogjgaaaLaws
import Derived.Deep.LoopGhost
namespace Go.Proofs.Ytaiamlbaogjgaaa
set_option linter.unusedVariables false
open Go.RowKit

/-- A new bucket, two cells elsewhere kept. -/
theorem new_held (a b : Int) (g : Nat) (x y : Value) (w : World) (h0 : w.cell? ⟨g, 0, none⟩ = some x) (h1 : w.cell? ⟨g, 1, none⟩ = some y) : Calls Try.prog 10 #[.int .i64 a, .int .i64 b] w fun e w' =>
    e = .returned (.pointer (some ⟨w.heap.size, 0, none⟩)) ∧ Bk w' w.heap.size (clamp a 0 1000000) (1000 * clamp b 1 256) (1000 * clamp b 1 256) ∧ w.heap.size < w'.heap.size ∧ Keeps (fun _ => False) w w' ∧
      w'.cell? ⟨g, 0, none⟩ = some x ∧ w'.cell? ⟨g, 1, none⟩ = some y :=
  (new_any a b w).mono fun e w' ⟨he, hk, hz, hq⟩ => ⟨he, hk, hz, hq,
    (World.cell?_of_block (hq.block g (World.block_lt_of_cell? w _ h0) (fun h => h))).trans h0, (World.cell?_of_block (hq.block g (World.block_lt_of_cell? w _ h1) (fun h => h))).trans h1⟩

theorem good_new (a b : Int) : Good (clamp a 0 1000000) (1000 * clamp b 1 256) (1000 * clamp b 1 256) := by
  refine ⟨?_, ?_, ?_, ?_, ?_, ?_⟩ <;> unfold clamp <;> omega

theorem later_twice {A M c a b : Int} (h : Good A M c) (a0 : 0 ≤ a) (b0 : 0 ≤ b) (a1 : a ≤ 524288) (b1 : b ≤ 524288) : later A M (later A M c a) b = later A M c (a + b) := by
  have e1 : clamp a 0 1048576 = a := by unfold clamp; omega
  have e2 : clamp b 0 1048576 = b := by unfold clamp; omega
  have e3 : clamp (a + b) 0 1048576 = a + b := by unfold clamp; omega
  unfold later
  rw [e1, e2, e3, Int.add_mul]
  have p1 : 0 ≤ a * A := Int.mul_nonneg a0 h.a0
  have p2 : 0 ≤ b * A := Int.mul_nonneg b0 h.a0
  generalize a * A = x at *
  generalize b * A = y at *
  omega

set_option maxHeartbeats 1000000 in
set_option maxRecDepth 100000 in
theorem splits_walk (m0 m1 a b : Int) (w : World) :
    Calls Try.prog 6 #[.agg #[.int .i64 m0, .int .i64 m1], .int .i64 a, .int .i64 b] w fun e w' => e = .returned (.bool true) ∧ Below w.heap.size w w' := by
  by_cases ha : a < 0
  · go_enter Try.func6, Try.ntmps6
    go_wp2_with fail
    refine (awake_any _).mono ?_
    rintro e W5 ⟨rfl, hb5⟩
    go_wp2_with fail
    go_ret
    exact ⟨rfl, ((Below.refl _ _).alloc (Nat.le_refl _) _).trans (hb5.mono (by simp))⟩
  by_cases hb : b < 0
  · go_enter Try.func6, Try.ntmps6
    go_wp2_with fail
    refine (awake_any _).mono ?_
    rintro e W5 ⟨rfl, hb5⟩
    go_wp2_with fail
    go_ret
    exact ⟨rfl, ((Below.refl _ _).alloc (Nat.le_refl _) _).trans (hb5.mono (by simp))⟩
  by_cases ha' : a > 524288
  · go_enter Try.func6, Try.ntmps6
    go_wp2_with fail
    refine (awake_any _).mono ?_
    rintro e W5 ⟨rfl, hb5⟩
    go_wp2_with fail
    go_ret
    exact ⟨rfl, ((Below.refl _ _).alloc (Nat.le_refl _) _).trans (hb5.mono (by simp))⟩
  by_cases hb' : b > 524288
  · go_enter Try.func6, Try.ntmps6
    go_wp2_with fail
    refine (awake_any _).mono ?_
    rintro e W5 ⟨rfl, hb5⟩
    go_wp2_with fail
    go_ret
    exact ⟨rfl, ((Below.refl _ _).alloc (Nat.le_refl _) _).trans (hb5.mono (by simp))⟩
  go_enter Try.func6, Try.ntmps6
  go_wp2_with fail
  have h0 : (w.alloc (.cells #[.int .i64 m0, .int .i64 m1] 27)).cell? ⟨w.heap.size, 0, none⟩ = some (.int .i64 m0) := (Blk.new w 27 #[.int .i64 m0, .int .i64 m1]).cell 0
  have h1 : (w.alloc (.cells #[.int .i64 m0, .int .i64 m1] 27)).cell? ⟨w.heap.size, 1, none⟩ = some (.int .i64 m1) := (Blk.new w 27 #[.int .i64 m0, .int .i64 m1]).cell 1
  have hs : w.heap.size < (w.alloc (.cells #[.int .i64 m0, .int .i64 m1] 27)).heap.size := by simp
  have hq0 : Keeps (fun _ => False) w (w.alloc (.cells #[.int .i64 m0, .int .i64 m1] 27)) := (Keeps.refl _ _).alloc _
  generalize w.alloc (.cells #[.int .i64 m0, .int .i64 m1] 27) = W at *
  go_region_held3 (fun w' => w'.cell? ⟨w.heap.size, 0, none⟩ = some (.int .i64 m0) ∧ w'.cell? ⟨w.heap.size, 1, none⟩ = some (.int .i64 m1)) (first | exact ⟨by assumption, by assumption⟩ | go_keep)
    (first | (go_at_call 10; refine (new_held _ _ w.heap.size _ _ _ (by assumption) (by assumption)).mono ?_; rintro e w1 ⟨rfl, hk, hz, hq, k0, k1⟩))
  rename_i v1 hk1 hz1 hq1 kk0 kk1 hh
  have hg := good_new m0 m1
  replace hk1 : Bk v1 W.heap.size (clamp m0 0 1000000) (1000 * clamp m1 1 256) (1000 * clamp m1 1 256) := hk1
  replace hz1 : W.heap.size < v1.heap.size := hz1
  have hk2 : Bk w1 W.heap.size (clamp m0 0 1000000) (1000 * clamp m1 1 256) (1000 * clamp m1 1 256) := hk1.kept hq (fun h => h)
  have hall : Keeps (fun k => w.heap.size ≤ k) w w1 := (hq0.mono fun _ _ h => h.elim).trans ((Keeps.refl _ W).drew.trans ((hq1.mono fun _ _ h => h.elim).trans (hq.mono fun _ _ h => h.elim)))
  clear hh kk0 kk1 k0 k1 hq hq1 hk1 hq0 h0 h1
  generalize clamp m0 0 1000000 = A at *
  generalize 1000 * clamp m1 1 256 = M at *
  have hlt1 : w.heap.size < W.heap.size := hs
  have hlt2 : W.heap.size < v1.heap.size := hz1
  generalize W.heap.size = gx at *
  generalize v1.heap.size = gy at *
  have HK := Lib.hid hk
  have HK2 := Lib.hid hk2
  have HQ := Lib.hid hall
  have HG := Lib.hid hg
  clear hk hk2 hall hs hz1 hg
  go_wp2_with fail
  go_loopw [9] (fun i wr => ∃ (k : Nat) (c : Int), k ≤ 300 ∧ i = .int .i64 k ∧ Bk wr gx A M c ∧ Bk wr gy A M c ∧ Good A M c ∧ Keeps (fun k => w.heap.size ≤ k) w wr) (fun i _ => 300 - (intOf i).toNat)
  case atStart => exact ⟨0, M, by omega, rfl, HK2.out, HK.out, HG.out, HQ.out⟩
  case round =>
    obtain ⟨k, c, hk, rfl, hx, hy, hgood, hkeep⟩ := hrel
    by_cases hlt : k < 300
    · by_cases hc : 1000 ≤ c
      · go_wp2_with fail
        refine (take_any gx A M c _ hx hgood).mono ?_
        rintro e W2 ⟨rfl, hx2, hq2, hz2⟩
        replace hy := hy.kept hq2 (by omega)
        rw [(enough_yes hc).1]
        go_wp2_with fail
        refine (take_any gy A M c _ hy hgood).mono ?_
        rintro e W3 ⟨rfl, hy3, hq3, hz3⟩
        replace hx2 := hx2.kept hq3 (by omega)
        rw [(enough_yes hc).1]
        have hgr := hgood.rest
        go_wp2_with fail
        go_roundw
        case rel => exact ⟨k + 1, rest c, by omega, by go_num, hx2, hy3, hgr, hkeep.trans ((hq2.mono fun _ _ h => by omega).trans (hq3.mono fun _ _ h => by omega))⟩
        case measure => simp [intOf]; omega
      · go_wp2_with fail
        refine (take_any gx A M c _ hx hgood).mono ?_
        rintro e W2 ⟨rfl, hx2, hq2, hz2⟩
        replace hy := hy.kept hq2 (by omega)
        rw [(enough_no (c := c) (by omega)).2] at hx2
        rw [(enough_no (c := c) (by omega)).1]
        replace hkeep : Keeps (fun k => w.heap.size ≤ k) w W2 := hkeep.trans (hq2.mono fun _ _ h => by omega)
        clear hq2 hz2 hx
        go_wp2_with fail
        refine (tick_any gx A M c a _ hx2 hgood).mono ?_
        rintro e V1 ⟨rfl, hx3, hq3, hz3⟩
        have hy3 := hy.kept hq3 (by omega)
        go_wp2_with fail
        refine (tick_any gx A M _ b _ hx3 (hgood.later a)).mono ?_
        rintro e V2 ⟨rfl, hx4, hq4, hz4⟩
        have hy4 := hy3.kept hq4 (by omega)
        go_wp2_with fail
        refine (tick_any gy A M c (a + b) _ hy4 hgood).mono ?_
        rintro e V3 ⟨rfl, hy5, hq5, hz5⟩
        have hx5 := hx4.kept hq5 (by omega)
        rw [later_twice hgood (by omega) (by omega) (by omega) (by omega)] at hx5
        go_wp2_with fail
        refine (level_any gx A M _ _ hx5).mono ?_
        rintro e V4 ⟨rfl, rfl⟩
        go_wp2_with fail
        refine (level_any gy A M _ _ hy5).mono ?_
        rintro e V4 ⟨rfl, rfl⟩
        go_wp2_with fail
        refine (awake_any _).mono ?_
        rintro e V5 ⟨rfl, hb5⟩
        go_wp2_with fail
        go_ret
        have hend : Keeps (fun k => w.heap.size ≤ k) w V3 := hkeep.trans ((hq3.mono fun _ _ h => by omega).trans ((hq4.mono fun _ _ h => by omega).trans (hq5.mono fun _ _ h => by omega)))
        exact ⟨rfl, (hend.below (Nat.le_refl _) fun _ h => h).trans (hb5.mono hend.size)⟩
    · have hk' : k = 300 := by omega
      clear hlt
      subst hk'
      go_wp2_with fail
      refine (tick_any gx A M c a _ hx hgood).mono ?_
      rintro e V1 ⟨rfl, hx3, hq3, hz3⟩
      have hy3 := hy.kept hq3 (by omega)
      go_wp2_with fail
      refine (tick_any gx A M _ b _ hx3 (hgood.later a)).mono ?_
      rintro e V2 ⟨rfl, hx4, hq4, hz4⟩
      have hy4 := hy3.kept hq4 (by omega)
      go_wp2_with fail
      refine (tick_any gy A M c (a + b) _ hy4 hgood).mono ?_
      rintro e V3 ⟨rfl, hy5, hq5, hz5⟩
      have hx5 := hx4.kept hq5 (by omega)
      rw [later_twice hgood (by omega) (by omega) (by omega) (by omega)] at hx5
      go_wp2_with fail
      refine (level_any gx A M _ _ hx5).mono ?_
      rintro e V4 ⟨rfl, rfl⟩
      go_wp2_with fail
      refine (level_any gy A M _ _ hy5).mono ?_
      rintro e V4 ⟨rfl, rfl⟩
      go_wp2_with fail
      refine (awake_any _).mono ?_
      rintro e V5 ⟨rfl, hb5⟩
      go_wp2_with fail
      go_ret
      have hend : Keeps (fun k => w.heap.size ≤ k) w V3 := hkeep.trans ((hq3.mono fun _ _ h => by omega).trans ((hq4.mono fun _ _ h => by omega).trans (hq5.mono fun _ _ h => by omega)))
      exact ⟨rfl, (hend.below (Nat.le_refl _) fun _ h => h).trans (hb5.mono hend.size)⟩
end Go.Proofs.Ytaiamlbaogjgaaa
