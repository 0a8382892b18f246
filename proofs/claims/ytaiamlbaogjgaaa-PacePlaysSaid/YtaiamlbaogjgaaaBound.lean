/-
  The walk of PaceBound: it returns true for every input. No condition beyond what fits a kind.
-/
import Derived.Test.YtaiamlbaogjgaaaSplits
namespace Go.Proofs.Ytaiamlbaogjgaaa
set_option linter.unusedVariables false
open Go.RowKit

/-- A slice that came in and reads as numbers. -/
def Row (kd : IntKind) (w : World) (A : Option Addr) (n : Nat) (xs : List Int) : Prop :=
  0 < n → ∃ b off, A = some ⟨b, off, none⟩ ∧ b < w.heap.size ∧ ∀ i, i < n → w.cell? ⟨b, off + i, none⟩ = some (.int kd (xs.getD i 0)) ∧ (Lit.int kd (xs.getD i 0)).wf = true

theorem Row.of_cells {kd : IntKind} {w : World} {x : Addr} {n c : Nat} {zs : List Int} (hl : n ≤ c) (hz : zs.length = c) (hcell : ∀ i, i < zs.length → w.cell? (x.add i) = some (.int kd (zs.getD i 0))) (hw : ∀ v ∈ zs, (Lit.int kd v).wf = true) : Row kd w (some x) n zs := fun hn => by
  obtain ⟨b, off, spot⟩ := x
  have h0 := hcell 0 (by omega)
  have hspot : spot = none := by simpa [Addr.add] using World.cell?_spot h0
  subst hspot
  refine ⟨b, off, rfl, World.block_lt_of_cell? w _ (by simpa [Addr.add] using h0), fun i hi => ⟨?_, ?_⟩⟩
  · have := hcell i (by omega)
    rwa [Addr.add_lit] at this
  · have hi' : i < zs.length := by omega
    rw [List.getD, List.getElem?_eq_getElem hi']
    exact hw _ (List.getElem_mem hi')

theorem Row.kept {S : Nat → Prop} {kd : IntKind} {w w' : World} {A : Option Addr} {n : Nat} {xs : List Int} (h : Row kd w A n xs) (k : Keeps S w w') (hs : ∀ k, S k → w.heap.size ≤ k) : Row kd w' A n xs := fun hn => by
  obtain ⟨b, off, hA, hb, hc⟩ := h hn
  refine ⟨b, off, hA, Nat.lt_of_lt_of_le hb k.size, fun i hi => ?_⟩
  have e : w'.cell? ⟨b, off + i, none⟩ = w.cell? ⟨b, off + i, none⟩ := World.cell?_of_block (k.block b hb (fun hS => by have := hs b hS; omega))
  rw [e]; exact hc i hi

/-- The cells of the law's own struct argument. -/
theorem box_cells (w : World) (m0 m1 : Int) : Blk (w.alloc (.cells #[.int .i64 m0, .int .i64 m1] 27)) w.heap.size 27 #[.int .i64 m0, .int .i64 m1] := Blk.new _ _ _

theorem low_bits (x : Int) (h : (Lit.int .u16 x).wf = true) : ∃ y : Int, bits BinOp.and IntKind.u16 x 15 = y ∧ 0 ≤ y ∧ y ≤ 15 := by
  have hb : 0 ≤ x ∧ x < 65536 := by
    have e1 : IntKind.u16.min = 0 := by rfl
    have e2 : IntKind.u16.max = 65535 := by rfl
    simp [Lit.wf, e1, e2] at h
    omega
  refine ⟨_, rfl, ?_, ?_⟩ <;> rw [u16_and x 15 hb.1 hb.2 (by omega) (by omega)]
  · omega
  · have : x.toNat &&& (15 : Int).toNat ≤ 15 := Nat.and_le_right
    omega
theorem later_le {A M c y : Int} (_h : Good A M c) (y0 : 0 ≤ y) (y1 : y ≤ 1048576) : later A M c y ≤ c + y * A := by
  have e1 : clamp y 0 1048576 = y := by unfold clamp; omega
  unfold later
  rw [e1]
  omega

set_option maxHeartbeats 2000000 in
set_option maxRecDepth 100000 in
theorem bound_walk (m0 m1 : Int) (A0 : Option Addr) (n cap : Nat) (xs : List Int) (w : World) (hn : n ≤ cap) (hcap : cap ≤ maxLen) (hr : Row .u16 w A0 n xs) :
    Calls Try.prog 5 #[.agg #[.int .i64 m0, .int .i64 m1], .slice A0 n cap] w fun e w' => e = .returned (.bool true) ∧ Below w.heap.size w w' := by
  unfold maxLen at hcap
  have HR := Lib.hid hr
  clear hr
  by_cases hbad : n > 300 ∨ m0 < 0 ∨ m0 > 5000 ∨ m1 < 1 ∨ m1 > 20
  · by_cases c0 : n > 300
    · go_enter Try.func5, Try.ntmps5
      go_wp2_with fail
      refine (awake_any _).mono ?_
      rintro e W5 ⟨rfl, hb5⟩
      go_wp2_with fail
      go_ret
      exact ⟨rfl, ((Below.refl _ _).alloc (Nat.le_refl _) _).trans (hb5.mono (by simp))⟩
    · have c0' : n ≤ 300 := by omega
      by_cases d1 : m0 < 0
      · clear hbad
        go_enter Try.func5, Try.ntmps5
        go_wp2_with fail
        refine (awake_any _).mono ?_
        rintro e W5 ⟨rfl, hb5⟩
        go_wp2_with fail
        go_ret
        exact ⟨rfl, ((Below.refl _ _).alloc (Nat.le_refl _) _).trans (hb5.mono (by simp))⟩
      · by_cases d2 : m0 > 5000
        · clear hbad
          go_enter Try.func5, Try.ntmps5
          go_wp2_with fail
          refine (awake_any _).mono ?_
          rintro e W5 ⟨rfl, hb5⟩
          go_wp2_with fail
          go_ret
          exact ⟨rfl, ((Below.refl _ _).alloc (Nat.le_refl _) _).trans (hb5.mono (by simp))⟩
        · by_cases d3 : m1 < 1
          · clear hbad
            go_enter Try.func5, Try.ntmps5
            go_wp2_with fail
            refine (awake_any _).mono ?_
            rintro e W5 ⟨rfl, hb5⟩
            go_wp2_with fail
            go_ret
            exact ⟨rfl, ((Below.refl _ _).alloc (Nat.le_refl _) _).trans (hb5.mono (by simp))⟩
          · have d4 : m1 > 20 := by omega
            clear hbad
            go_enter Try.func5, Try.ntmps5
            go_wp2_with fail
            refine (awake_any _).mono ?_
            rintro e W5 ⟨rfl, hb5⟩
            go_wp2_with fail
            go_ret
            exact ⟨rfl, ((Below.refl _ _).alloc (Nat.le_refl _) _).trans (hb5.mono (by simp))⟩
  · have c0 : ¬ n > 300 := fun h => hbad (.inl h)
    have c1 : 0 ≤ m0 := by omega
    have c2 : m0 ≤ 5000 := by omega
    have c3 : 1 ≤ m1 := by omega
    have c4 : m1 ≤ 20 := by omega
    clear hbad
    go_enter Try.func5, Try.ntmps5
    go_wp2_with fail
    have hkb := box_cells w m0 m1
    have hq0 : Keeps (fun _ => False) w (w.alloc (.cells #[.int .i64 m0, .int .i64 m1] 27)) := (Keeps.refl _ _).alloc _
    have hz0 : w.heap.size < (w.alloc (.cells #[.int .i64 m0, .int .i64 m1] 27)).heap.size := by simp
    generalize w.alloc (.cells #[.int .i64 m0, .int .i64 m1] 27) = W at *
    refine (new_any _ _ _).mono ?_
    rintro e W1 ⟨rfl, hk1, hz1, hq1⟩
    replace hk1 := hk1.nums (a := m0) (b := 1000 * m1) (c := 1000 * m1) (by unfold clamp; omega) (by unfold clamp; omega) (by unfold clamp; omega)
    have hg : Good m0 (1000 * m1) (1000 * m1) := ⟨by omega, by omega, by omega, by omega, by omega, by omega⟩
    have hk0 := hkb.kept hq1 (fun h => h)
    have hall : Keeps (fun k => w.heap.size ≤ k) w W1 := (hq0.mono fun _ _ h => h.elim).trans (hq1.mono fun _ _ h => h.elim)
    generalize W.heap.size = g at *
    have H1 := Lib.hid hk1
    have H0 := Lib.hid hk0
    have HQ := Lib.hid hall
    have HG := Lib.hid hg
    clear hk1 hk0 hall hg hkb hq0 hq1 hz1
    go_wp2_with fail
    go_loopw [6, 7, 8, 9, 10] (fun tk ts i _ _ wr => ∃ (k : Nat) (taken ticks c : Int), k ≤ n ∧ i = .int .i64 k ∧ tk = .int .i64 taken ∧ ts = .int .i64 ticks ∧ 0 ≤ taken ∧ taken ≤ 100 * k ∧ 0 ≤ ticks ∧ ticks ≤ 15 * k ∧
      1000 * taken + c ≤ 1000 * m1 + ticks * m0 ∧ Bk wr g m0 (1000 * m1) c ∧ Good m0 (1000 * m1) c ∧ Blk wr w.heap.size 27 #[.int .i64 m0, .int .i64 m1] ∧ Keeps (fun k => w.heap.size ≤ k) w wr) (fun _ _ i _ _ _ => n - (intOf i).toNat)
    case atStart => exact ⟨0, 0, 0, 1000 * m1, Nat.zero_le _, rfl, rfl, rfl, by omega, by omega, by omega, by omega, by omega, H1.out, HG.out, H0.out, HQ.out⟩
    case round =>
      obtain ⟨k, taken, ticks, c, hk, rfl, rfl, rfl, t0, t1, s0, s1, hsum, hb, hgood, hbox, hkeep⟩ := hrel
      by_cases hlt : k < n
      · obtain ⟨b, off, rfl, hbl, hc⟩ := (HR.out.kept hkeep fun _ h => h) (by omega)
        obtain ⟨hcell, hwf⟩ := hc k hlt
        clear hc
        generalize xs.getD k 0 = x at *
        obtain ⟨y, hy, y0, y1⟩ := low_bits x hwf
        clear hwf
        have hlat := later_le hgood y0 (by omega)
        have hgl := hgood.later y
        go_wp2_with fail
        refine (tick_any g m0 (1000 * m1) c y _ hb hgood).mono ?_
        rintro e W2 ⟨rfl, hb2, hq2, hz2⟩
        generalize later m0 (1000 * m1) c y = c2 at *
        have hbox2 := hbox.kept hq2 (by omega)
        have hkeep2 : Keeps (fun k => w.heap.size ≤ k) w W2 := hkeep.trans (hq2.mono fun _ _ h => by omega)
        have hsum2 : 1000 * taken + c2 ≤ 1000 * m1 + (ticks + y) * m0 := by rw [Int.add_mul]; omega
        have s2 : 0 ≤ ticks + y := by omega
        have s3 : ticks + y ≤ 15 * (k + 1) := by omega
        have HC := Lib.hid hcell
        clear hb hbox hkeep hsum hq2 hz2 hgood hlat hcell
        go_wp2_with fail
        have HS2 := Lib.hid s2
        have HS3 := Lib.hid s3
        clear s2 s3
        generalize ticks + y = ticks2 at *
        have s2 := HS2.out
        have s3 := HS3.out
        go_loopw [6, 10] (fun tk j wr => ∃ (q : Nat) (taken2 c3 : Int), q ≤ 100 ∧ j = .int .i64 q ∧ tk = .int .i64 taken2 ∧ 0 ≤ taken2 ∧ taken2 ≤ taken + q ∧
          1000 * taken2 + c3 ≤ 1000 * m1 + ticks2 * m0 ∧ Bk wr g m0 (1000 * m1) c3 ∧ Good m0 (1000 * m1) c3 ∧ Blk wr w.heap.size 27 #[.int .i64 m0, .int .i64 m1] ∧ Keeps (fun k => w.heap.size ≤ k) w wr) (fun _ j _ => 100 - (intOf j).toNat)
        case atStart => exact ⟨0, taken, c2, by omega, rfl, rfl, by omega, by omega, by omega, hb2, hgl, hbox2, hkeep2⟩
        case round =>
          obtain ⟨q, taken2, c3, hq, rfl, rfl, u0, u1, hsum3, hb3, hgood3, hbox3, hkeep3⟩ := hrel
          by_cases hlq : q < 100
          · by_cases hc : 1000 ≤ c3
            · go_wp2_with fail
              refine (take_any g m0 (1000 * m1) c3 _ hb3 hgood3).mono ?_
              rintro e W3 ⟨rfl, hb4, hq4, hz4⟩
              have hbox4 := hbox3.kept hq4 (by omega)
              rw [(enough_yes hc).1]
              rw [(enough_yes hc).2] at hb4
              have hg4 : Good m0 (1000 * m1) (c3 - 1000) := by have := hgood3.rest; rw [(enough_yes hc).2] at this; exact this
              go_wp2_with fail
              go_roundw
              case rel => exact ⟨q + 1, taken2 + 1, c3 - 1000, by omega, by go_num, by go_num, by omega, by omega, by omega, hb4, hg4, hbox4, hkeep3.trans (hq4.mono fun _ _ h => by omega)⟩
              case measure => simp [intOf]; omega
            · go_wp2_with fail
              refine (take_any g m0 (1000 * m1) c3 _ hb3 hgood3).mono ?_
              rintro e W3 ⟨rfl, hb4, hq4, hz4⟩
              have hbox4 := hbox3.kept hq4 (by omega)
              rw [(enough_no (c := c3) (by omega)).1]
              rw [(enough_no (c := c3) (by omega)).2] at hb4
              go_wp2_with fail
              go_roundw
              case rel => exact ⟨k + 1, taken2, ticks2, c3, by omega, by go_num, rfl, rfl, by omega, by omega, by omega, by omega, hsum3, hb4, hgood3, hbox4, hkeep3.trans (hq4.mono fun _ _ h => by omega)⟩
              case measure => simp [intOf]; omega
          · have hq' : q = 100 := by omega
            clear hlq
            subst hq'
            go_wp2_with fail
            go_roundw
            case rel => exact ⟨k + 1, taken2, ticks2, c3, by omega, by go_num, rfl, rfl, by omega, by omega, by omega, by omega, hsum3, hb3, hgood3, hbox3, hkeep3⟩
            case measure => simp [intOf]; omega
      · have hk' : k = n := by omega
        clear hlt
        subst hk'
        have x0 := hbox.cell 0
        have x1 := hbox.cell 1
        simp only [List.getElem?_toArray, List.getElem?_cons_succ, List.getElem?_cons_zero] at x0 x1
        have p0 : 0 ≤ ticks * m0 := Int.mul_nonneg s0 c1
        have p1 : ticks * m0 ≤ 4500 * 5000 := Int.mul_le_mul (by omega) c2 c1 (by omega)
        have l0 := hgood.c0
        have l1 := hgood.c1
        have e1 : IntKind.i64.wrap (1000 * taken) = 1000 * taken := IntWalk.i64_in _ (by omega)
        have e2 : IntKind.i64.wrap (1000 * m1) = 1000 * m1 := IntWalk.i64_in _ (by omega)
        have e3 : IntKind.i64.wrap (ticks * m0) = ticks * m0 := IntWalk.i64_in _ (by omega)
        have e4 : IntKind.i64.wrap (1000 * m1 + ticks * m0) = 1000 * m1 + ticks * m0 := IntWalk.i64_in _ (by omega)
        have d1 : decide (1000 * taken ≤ 1000 * m1 + ticks * m0) = true := decide_eq_true (by omega)
        have d2 : decide (0 ≤ c) = true := decide_eq_true l0
        have d3 : decide (c ≤ 1000 * m1) = true := decide_eq_true l1
        go_wp2_with fail
        refine wp_region_still_tail 25 (by kernel_rfl) (by kernel_rfl) ?_
        simp only [List.take_succ_cons, List.take_zero, List.drop_succ_cons, List.drop_zero]
        have hb' : Bk { wr with drawn := wr.drawn + 1 } g m0 (1000 * m1) c := hb
        have hkeep' : Keeps (fun k => w.heap.size ≤ k) w { wr with drawn := wr.drawn + 1 } := hkeep.drew
        repeat still_step
        still_call ((level_any g m0 (1000 * m1) c _ hb').mono fun e w' ⟨he, hw⟩ => ⟨he, hw.symm⟩)
        repeat still_step
        still_call ((level_any g m0 (1000 * m1) c _ hb').mono fun e w' ⟨he, hw⟩ => ⟨he, hw.symm⟩)
        repeat still_step
        refine wpStill_nil ?_
        go_wp2_with fail
        refine (awake_any _).mono ?_
        rintro e W5 ⟨rfl, hb5⟩
        go_wp2_with fail
        go_ret
        exact ⟨rfl, (hkeep'.below (Nat.le_refl _) fun _ h => h).trans (hb5.mono hkeep'.size)⟩
end Go.Proofs.Ytaiamlbaogjgaaa
