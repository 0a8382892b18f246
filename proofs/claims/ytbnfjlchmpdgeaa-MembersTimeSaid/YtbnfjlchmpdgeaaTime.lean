/-
  MembersTime, walked. No condition but what fits int.
-/
import Derived.Test.YtbnfjlchmpdgeaaNone
namespace Go.Proofs.Ytbnfjlchmpdgeaa
set_option linter.unusedVariables false
open Go.RowKit

theorem wf_le {x : Int} (h : (Lit.int .i64 x).wf = true) : x ≤ 9223372036854775807 := by
  have e1 : IntKind.i64.min = -9223372036854775808 := by rfl
  have e2 : IntKind.i64.max = 9223372036854775807 := by rfl
  simp [Lit.wf, e1, e2] at h
  omega
theorem alive_at {g : Nat} {t : Int} {h : St} {n b : Int} {v : Bool} (hf : Fits h) (H : Hid (aliveB t h n b = v)) (w : World) (hm : Mem w g t h) : Calls Try.prog 13 #[.pointer (some ⟨g, 0, none⟩), .int .i64 n, .int .i64 b] w fun e w' =>
    e = .returned (.bool v) ∧ Below w.heap.size w w' := by rw [← H.out]; exact alive_any g t h hf n b w hm
theorem inc_at {g : Nat} {t : Int} {h : St} {n v : Int} (H : Hid (incA h n = v)) (w : World) (hm : Mem w g t h) : Calls Try.prog 15 #[.pointer (some ⟨g, 0, none⟩), .int .i64 n] w fun e w' =>
    e = .returned (.int .i64 v) ∧ Below w.heap.size w w' := by rw [← H.out]; exact inc_any g t h n w hm
theorem Mem.below {w w' : World} {g : Nat} {t : Int} {h : St} (hm : Mem w g t h) (k : Below w.heap.size w w') : Mem w' g t h := Blk.kept hm (Keeps.of_below (S := fun _ => False) k) fun h => h
theorem Mem.drew {w : World} {g : Nat} {t : Int} {h : St} (hm : Mem w g t h) : Mem w.drew g t h := hm

/-- Heard now: alive now, and up to the timeout from then on; the incarnation is noted. -/
theorem heard_facts {t n a b more : Int} {h : St} (hb : hearB h n a b = true) (t0 : 0 ≤ t) (m0 : 0 ≤ more) (m1 : more ≤ 1073741824) (b1 : b ≤ 549755813888) :
    aliveB t (hearS h n a b) n b = true ∧ aliveB t (hearS h n a b) n (b + more) = decide (more ≤ t) ∧ incA (hearS h n a b) n = a := by
  have hx := hb
  unfold hearB at hx
  simp only [Bool.and_eq_true, decide_eq_true_eq] at hx
  obtain ⟨⟨⟨hi, h0⟩, hm⟩, -⟩ := hx
  have hm' : 0 ≤ b ∧ b ≤ 1099511627776 := mom_in hm
  have hmm : momB (b + more) = true := decide_eq_true (by omega)
  have hS : hearS h n a b = h.upd n.toNat a b := by unfold hearS; rw [hb]; rfl
  have hat : (h.upd n.toNat a b) n.toNat = some (a, b) := by unfold St.upd; simp
  refine ⟨?_, ?_, ?_⟩
  · unfold aliveB; rw [hS, hat, hi, hm]; simp [nowI]; exact t0
  · unfold aliveB; rw [hS, hat, hi, hmm]; rw [show nowI (some (a, b)) = b from rfl, show b + more - b = more by omega, decide_eq_true (show b ≤ b + more by omega)]; rfl
  · unfold incA; rw [hS, hat, hi]; rfl
theorem unheard_facts (t n b : Int) : aliveB t St.none n b = false ∧ incA St.none n = -1 := by
  constructor
  · unfold aliveB St.none; cases isB n <;> rfl
  · unfold incA St.none; cases isB n <;> rfl
theorem clamp_in {t : Int} (h0 : 0 ≤ t) (h1 : t ≤ 1048576) : clamp t 0 1048576 = t := by unfold clamp; omega

/-- What the law's calls keep: its word, its members. -/
structure Held (o : World) (gw : Nat) (n a b : Int) (g : Nat) (t : Int) (h : St) (w : World) : Prop where
  k0 : w.cell? ⟨gw, 0, none⟩ = some (.int .i64 n)
  k1 : w.cell? ⟨gw, 1, none⟩ = some (.int .i64 a)
  k2 : w.cell? ⟨gw, 2, none⟩ = some (.int .i64 b)
  m : Mem w g t h
  lo : Below o.heap.size o w
theorem Held.below {o : World} {gw : Nat} {n a b : Int} {g : Nat} {t : Int} {h : St} {w w' : World} (hh : Held o gw n a b g t h w) (k : Below w.heap.size w w') : Held o gw n a b g t h w' :=
  ⟨(k.cell (p := ⟨gw, 0, none⟩) (World.block_lt_of_cell? w _ hh.k0)).trans hh.k0, (k.cell (p := ⟨gw, 1, none⟩) (World.block_lt_of_cell? w _ hh.k1)).trans hh.k1, (k.cell (p := ⟨gw, 2, none⟩) (World.block_lt_of_cell? w _ hh.k2)).trans hh.k2, hh.m.below k, hh.lo.trans (k.mono hh.lo.size)⟩
theorem Held.drew {o : World} {gw : Nat} {n a b : Int} {g : Nat} {t : Int} {h : St} {w : World} (hh : Held o gw n a b g t h w) : Held o gw n a b g t h w.drew := ⟨hh.k0, hh.k1, hh.k2, hh.m, hh.lo.drew⟩
/-- a call that keeps what is below. -/
def HeldTo (o : World) (gw : Nat) (n a b : Int) (g : Nat) (t : Int) (h : St) (v : Value) (w : World) (e : Ending) (w' : World) : Prop :=
  e = .returned v ∧ Below w.heap.size w w' ∧ Held o gw n a b g t h w' ∧ w'.cell? ⟨gw, 0, none⟩ = some (.int .i64 n) ∧ w'.cell? ⟨gw, 1, none⟩ = some (.int .i64 a) ∧ w'.cell? ⟨gw, 2, none⟩ = some (.int .i64 b)
theorem Held.to {o : World} {gw : Nat} {n a b : Int} {g : Nat} {t : Int} {h : St} {w : World} (hh : w.cell? ⟨gw, 0, none⟩ = some (.int .i64 n) ∧ w.cell? ⟨gw, 1, none⟩ = some (.int .i64 a) ∧ w.cell? ⟨gw, 2, none⟩ = some (.int .i64 b) ∧ Held o gw n a b g t h w) {f : Nat} {args : Array Value} {v : Value} (hc : Calls Try.prog f args w fun e w' => e = .returned v ∧ Below w.heap.size w w') :
    Calls Try.prog f args w (HeldTo o gw n a b g t h v w) :=
  hc.mono fun e w' ⟨he, hb⟩ => have k := hh.2.2.2.below hb; ⟨he, hb, k, k.k0, k.k1, k.k2⟩
theorem Held.alive {o : World} {gw : Nat} {n a b : Int} {g : Nat} {t : Int} {h : St} {w : World} (hh : w.cell? ⟨gw, 0, none⟩ = some (.int .i64 n) ∧ w.cell? ⟨gw, 1, none⟩ = some (.int .i64 a) ∧ w.cell? ⟨gw, 2, none⟩ = some (.int .i64 b) ∧ Held o gw n a b g t h w) {x y : Int} {v : Bool} (hf : Fits h) (H : Hid (aliveB t h x y = v)) :
    Calls Try.prog 13 #[.pointer (some ⟨g, 0, none⟩), .int .i64 x, .int .i64 y] w (HeldTo o gw n a b g t h (.bool v) w) := Held.to hh (alive_at hf H w hh.2.2.2.m)
theorem Held.inc {o : World} {gw : Nat} {n a b : Int} {g : Nat} {t : Int} {h : St} {w : World} (hh : w.cell? ⟨gw, 0, none⟩ = some (.int .i64 n) ∧ w.cell? ⟨gw, 1, none⟩ = some (.int .i64 a) ∧ w.cell? ⟨gw, 2, none⟩ = some (.int .i64 b) ∧ Held o gw n a b g t h w) {x : Int} {v : Int} (H : Hid (incA h x = v)) :
    Calls Try.prog 15 #[.pointer (some ⟨g, 0, none⟩), .int .i64 x] w (HeldTo o gw n a b g t h (.int .i64 v) w) := Held.to hh (inc_at H w hh.2.2.2.m)
theorem Held.awake {o : World} {gw : Nat} {n a b : Int} {g : Nat} {t : Int} {h : St} {w : World} (hh : w.cell? ⟨gw, 0, none⟩ = some (.int .i64 n) ∧ w.cell? ⟨gw, 1, none⟩ = some (.int .i64 a) ∧ w.cell? ⟨gw, 2, none⟩ = some (.int .i64 b) ∧ Held o gw n a b g t h w) :
    Calls Try.prog 8 #[] w (HeldTo o gw n a b g t h (.bool true) w) := Held.to hh (awake_any w)

set_option maxRecDepth 100000 in
theorem time_true (t n a b more : Int) (ha : a ≤ 9223372036854775807) (w : World) : Calls Try.prog 4 #[.int .i64 t, .agg #[.int .i64 n, .int .i64 a, .int .i64 b], .int .i64 more] w fun e w' => e = .returned (.bool true) ∧ Below w.heap.size w w' := by
  by_cases c0 : t < 0
  · go_enter Try.func4, Try.ntmps4
    go_wp2_with fail
    refine (awake_any _).mono ?_
    rintro e W5 ⟨rfl, hb5⟩
    go_wp2_with fail
    go_ret
    exact ⟨rfl, ((Below.refl _ _).alloc (Nat.le_refl _) _).trans (hb5.mono (by simp))⟩
  by_cases c1 : t > 1048576
  · go_enter Try.func4, Try.ntmps4
    go_wp2_with fail
    refine (awake_any _).mono ?_
    rintro e W5 ⟨rfl, hb5⟩
    go_wp2_with fail
    go_ret
    exact ⟨rfl, ((Below.refl _ _).alloc (Nat.le_refl _) _).trans (hb5.mono (by simp))⟩
  by_cases c2 : more < 0
  · go_enter Try.func4, Try.ntmps4
    go_wp2_with fail
    refine (awake_any _).mono ?_
    rintro e W5 ⟨rfl, hb5⟩
    go_wp2_with fail
    go_ret
    exact ⟨rfl, ((Below.refl _ _).alloc (Nat.le_refl _) _).trans (hb5.mono (by simp))⟩
  by_cases c3 : more > 1073741824
  · go_enter Try.func4, Try.ntmps4
    go_wp2_with fail
    refine (awake_any _).mono ?_
    rintro e W5 ⟨rfl, hb5⟩
    go_wp2_with fail
    go_ret
    exact ⟨rfl, ((Below.refl _ _).alloc (Nat.le_refl _) _).trans (hb5.mono (by simp))⟩
  by_cases c4 : b > 549755813888
  · go_enter Try.func4, Try.ntmps4
    go_wp2_with fail
    refine (awake_any _).mono ?_
    rintro e W5 ⟨rfl, hb5⟩
    go_wp2_with fail
    go_ret
    exact ⟨rfl, ((Below.refl _ _).alloc (Nat.le_refl _) _).trans (hb5.mono (by simp))⟩
  go_enter Try.func4, Try.ntmps4
  go_wp2_with fail
  have hw := Wd.new w n a b
  have hb := (Below.refl w.heap.size w).alloc (Nat.le_refl _) (.cells #[.int .i64 n, .int .i64 a, .int .i64 b] 32)
  have hw0 : w.heap.size < (w.alloc (.cells #[.int .i64 n, .int .i64 a, .int .i64 b] 32)).heap.size := by simp
  generalize w.alloc (.cells #[.int .i64 n, .int .i64 a, .int .i64 b] 32) = W at *
  refine (new_any t _).mono ?_
  rintro e W1 ⟨rfl, hm, hz, hq⟩
  rw [clamp_in (by omega) (by omega)] at hm
  replace hw := hw.kept hq fun h => h
  have hsz := hb.size
  have hbb : Below w.heap.size w W1 := hb.trans ((Keeps.below hq (Nat.le_refl _) fun _ h => h.elim).mono hsz)
  obtain ⟨k0, k1, k2⟩ := hw.cells
  have hne : w.heap.size ≠ W.heap.size := Nat.ne_of_lt hw0
  generalize W.heap.size = g at *
  go_wp2_with fail
  refine (hear_any g t St.none Fits.none_ n a b _ hm).mono ?_
  rintro e W2 ⟨rfl, hm2, hq2⟩
  replace hw := hw.kept hq2 hne
  replace hbb := hbb.trans (Keeps.below (B := w.heap.size) hq2 hbb.size fun _ h => by omega)
  cases hh : hearB St.none n a b with
  | false =>
    rw [hearS_no hh] at hm2
    clear hh
    obtain ⟨F1, F2⟩ := unheard_facts t n b
    replace F1 := Lib.hid F1
    replace F2 := Lib.hid F2
    clear k0 k1 k2
    obtain ⟨k0, k1, k2⟩ := hw.cells
    go_wp2_with fail
    refine (alive_at Fits.none_ F1 _ hm2).mono ?_
    rintro e W3 ⟨rfl, hb3⟩
    replace hw := hw.below hb3
    replace hm2 := hm2.below hb3
    replace hbb := hbb.trans (hb3.mono hbb.size)
    clear k0 k1 k2 hb3
    obtain ⟨k0, k1, k2⟩ := hw.cells
    go_wp2_with fail
    refine (inc_at F2 _ hm2).mono ?_
    rintro e W4 ⟨rfl, hb3⟩
    replace hbb := hbb.trans (hb3.mono hbb.size)
    go_wp2_with fail
    refine (awake_any _).mono ?_
    rintro e W5 ⟨rfl, hb3⟩
    replace hbb := hbb.trans (hb3.mono hbb.size)
    go_wp2_with fail
    go_ret
    exact ⟨rfl, hbb⟩
  | true =>
    have hf2 : Fits (hearS St.none n a b) := Fits.none_.hear n a b ha
    obtain ⟨F1, F2, F3⟩ := heard_facts (t := t) (more := more) hh (by omega) (by omega) (by omega) (by omega)
    replace F1 := Lib.hid F1
    replace F2 := Lib.hid F2
    replace F3 := Lib.hid F3
    have e1 : IntKind.i64.wrap (b + more) = b + more := by
      have := mom_in (by unfold hearB at hh; simp only [Bool.and_eq_true] at hh; exact hh.1.2)
      exact IntWalk.i64_in _ (by omega)
    clear hh k0 k1 k2
    generalize hearS St.none n a b = h2 at *
    go_upto_region 6 with fail
    have hH : Held w w.heap.size n a b g t h2 W2 := ⟨hw.cells.1, hw.cells.2.1, hw.cells.2.2, hm2, hbb⟩
    obtain ⟨k0, k1, k2⟩ := hw.cells
    clear hw hbb hm2 hm hb hq hq2
    go_region_held3 (fun w' => w'.cell? ⟨w.heap.size, 0, none⟩ = some (.int .i64 n) ∧ w'.cell? ⟨w.heap.size, 1, none⟩ = some (.int .i64 a) ∧ w'.cell? ⟨w.heap.size, 2, none⟩ = some (.int .i64 b) ∧ Held w w.heap.size n a b g t h2 w') (first | assumption | exact ⟨k0, k1, k2, by assumption⟩ | exact ⟨k0, k1, k2, hH.drew⟩)
      (first | (go_at_call 13; refine (Held.alive (o := w) (gw := w.heap.size) (n := n) (a := a) (b := b) (by assumption) hf2 (by first | exact F1 | exact F2)).mono ?_; rintro e w1 ⟨rfl, hbx, hH, k0, k1, k2⟩) | (go_at_call 15; refine (Held.inc (o := w) (gw := w.heap.size) (n := n) (a := a) (b := b) (by assumption) F3).mono ?_; rintro e w1 ⟨rfl, hbx, hH, k0, k1, k2⟩) | (go_at_call 8; refine (Held.awake (o := w) (gw := w.heap.size) (n := n) (a := a) (b := b) (g := g) (t := t) (h := h2) (by assumption)).mono ?_; rintro e w1 ⟨rfl, hbx, hH, k0, k1, k2⟩))
    go_wp2_with fail
    go_ret
    exact ⟨rfl, hH.lo⟩
end Go.Proofs.Ytbnfjlchmpdgeaa
