/-
  MembersRise, walked. No condition but what fits int.
-/
import Derived.Test.YtbnfjlchmpdgeaaTime
namespace Go.Proofs.Ytbnfjlchmpdgeaa
set_option linter.unusedVariables false
open Go.RowKit

/-- Heard: the incarnation is what was heard, and not less than it was; not heard: as it was. -/
theorem rise_yes {h : St} {x y z : Int} (hb : hearB h x y z = true) : incA (hearS h x y z) x = y ∧ incA h x ≤ y := by
  have hx := hb
  unfold hearB at hx
  simp only [Bool.and_eq_true, decide_eq_true_eq] at hx
  obtain ⟨⟨⟨hi, h0⟩, hm⟩, hn⟩ := hx
  have hS : hearS h x y z = h.upd x.toNat y z := by unfold hearS; rw [hb]; rfl
  have hat : (h.upd x.toNat y z) x.toNat = some (y, z) := by unfold St.upd; simp
  refine ⟨?_, ?_⟩
  · unfold incA; rw [hS, hat, hi]; rfl
  · unfold incA
    rw [hi]
    cases hs : (h x.toNat).isSome with
    | false => simp; omega
    | true =>
      rw [hs] at hn
      simp at hn
      simpa using hn
/-- A word in memory, as three cells. -/
def Wa (w : World) (b o : Nat) (x y z : Int) : Prop := w.cell? ⟨b, o, none⟩ = some (.int .i64 x) ∧ w.cell? ⟨b, o + 1, none⟩ = some (.int .i64 y) ∧ w.cell? ⟨b, o + 2, none⟩ = some (.int .i64 z)
theorem Wa.keeps {S : Nat → Prop} {w w' : World} {b o : Nat} {x y z : Int} (h : Wa w b o x y z) (k : Keeps S w w') (hs : ¬ S b) : Wa w' b o x y z := by
  have e : w'.heap[b]? = w.heap[b]? := k.block b (World.block_lt_of_cell? w _ h.1) hs
  exact ⟨(World.cell?_of_block (a := ⟨b, o, none⟩) e).trans h.1, (World.cell?_of_block (a := ⟨b, o + 1, none⟩) e).trans h.2.1, (World.cell?_of_block (a := ⟨b, o + 2, none⟩) e).trans h.2.2⟩
theorem Wa.below {w w' : World} {b o : Nat} {x y z : Int} (h : Wa w b o x y z) (k : Below w.heap.size w w') : Wa w' b o x y z := h.keeps (Keeps.of_below (S := fun _ => False) k) fun h => h

/-- A slice of words that came in. -/
def Row (w : World) (A : Option Addr) (n : Nat) : Prop :=
  0 < n → ∃ b off, A = some ⟨b, off, none⟩ ∧ b < w.heap.size ∧ ∀ i, i < n → ∃ x y z : Int, Wa w b (off + i * 3) x y z ∧ y ≤ 9223372036854775807

set_option maxRecDepth 100000 in
theorem rise_true (t : Int) (A0 : Option Addr) (n cap : Nat) (w : World) (hn : n ≤ cap) (hcap : cap ≤ maxLen) (hr : Row w A0 n) :
    Calls Try.prog 5 #[.int .i64 t, .slice A0 n cap] w fun e w' => e = .returned (.bool true) ∧ Below w.heap.size w w' := by
  unfold maxLen at hcap
  have HR := Lib.hid hr
  clear hr
  by_cases c0 : n > 300
  · go_enter Try.func5, Try.ntmps5
    go_wp2_with fail
    refine (awake_any _).mono ?_
    rintro e W5 ⟨rfl, hb5⟩
    go_wp2_with fail
    go_ret
    exact ⟨rfl, hb5⟩
  · have c0' : n ≤ 300 := by omega
    have hd : decide ((300 : Int) < (n : Int)) = false := decide_eq_false (by omega)
    go_enter Try.func5, Try.ntmps5
    go_wp2_with fail
    refine (new_any t _).mono ?_
    rintro e W1 ⟨rfl, hm, hz, hq⟩
    generalize hg : w.heap.size = g at *
    generalize clamp t 0 1048576 = t' at *
    have hall : Keeps (fun k => g ≤ k) w W1 := hq.mono fun _ _ h => h.elim
    have HM := Lib.hid hm
    have HA := Lib.hid hall
    clear hm hall hq
    go_wp2_with fail
    go_loopw [6] (fun i wr => ∃ (k : Nat) (h : St), k ≤ n ∧ i = .int .i64 k ∧ Fits h ∧ Mem wr g t' h ∧ Keeps (fun k => g ≤ k) w wr) (fun i _ => n - (intOf i).toNat)
    case atStart => exact ⟨0, _, Nat.zero_le _, rfl, Fits.none_, HM.out, HA.out⟩
    case round =>
      obtain ⟨k, h, hk, rfl, hf, hm, hkeep⟩ := hrel
      by_cases hlt : k < n
      · obtain ⟨b, off, rfl, hbl, hc⟩ := HR.out (by omega)
        obtain ⟨x, y, z, hw, hyb⟩ := hc k hlt
        replace hw := hw.keeps hkeep (by omega)
        clear hc
        obtain ⟨k0, k1, k2⟩ := hw
        have hw : Wa wr b (off + k * 3) x y z := ⟨k0, k1, k2⟩
        obtain ⟨v, hv⟩ : ∃ v, incA h x = v := ⟨_, rfl⟩
        have HV := Lib.hid hv
        clear hv
        go_wp2_with fail
        refine (inc_at HV _ hm).mono ?_
        rintro e W2 ⟨rfl, hb2⟩
        replace hw := hw.below hb2
        replace hm := hm.below hb2
        replace hkeep : Keeps (fun k => g ≤ k) w W2 := hkeep.trans (Keeps.of_below hb2)
        clear k0 k1 k2 hb2
        obtain ⟨k0, k1, k2⟩ := hw
        have hw : Wa W2 b (off + k * 3) x y z := ⟨k0, k1, k2⟩
        go_upto_region 8 with fail
        have HM := Lib.hid hm
        have HW := Lib.hid hw
        have HK := Lib.hid hkeep
        go_still_tail 16, (by kernel_rfl)
        go_wp2_with fail
        refine (hear_any g t' h hf x y z _ HM.out.drew).mono ?_
        rintro e W3 ⟨rfl, hm3, hq3⟩
        replace hm := hm3
        replace hw := HW.out.keeps (w := W2) (w' := W3) ((Keeps.refl _ W2).drew.trans hq3) (by omega)
        replace hkeep : Keeps (fun k => g ≤ k) w W3 := HK.out.drew.trans (hq3.mono (own_le g))
        have hf3 : Fits (hearS h x y z) := hf.hear x y z hyb
        clear k0 k1 k2 hm3 hq3 HM HW HK
        obtain ⟨k0, k1, k2⟩ := hw
        have hw : Wa W3 b (off + k * 3) x y z := ⟨k0, k1, k2⟩
        cases hok : hearB h x y z with
        | true =>
          obtain ⟨r1, r2⟩ := rise_yes hok
          rw [HV.out] at r2
          have R1 := Lib.hid r1
          have q1 : decide (y < v) = false := decide_eq_false (by omega)
          clear r1 hok
          generalize hearS h x y z = h3 at *
          go_wp2_with fail
          refine (inc_at R1 _ hm).mono ?_
          rintro e W4 ⟨rfl, hb4⟩
          replace hw := hw.below hb4
          replace hm := hm.below hb4
          replace hkeep : Keeps (fun k => g ≤ k) w W4 := hkeep.trans (Keeps.of_below hb4)
          clear k0 k1 k2 hb4
          obtain ⟨k0, k1, k2⟩ := hw
          have HM := Lib.hid hm
          have HK := Lib.hid hkeep
          clear hm hkeep
          go_wp2_with fail
          go_roundw
          case rel => exact ⟨k + 1, h3, by omega, by go_num, hf3, HM.out, HK.out⟩
          case measure => simp [intOf]; omega
        | false =>
          rw [hearS_no hok] at hm hf3
          clear hok
          have q1 : decide (v < v) = false := decide_eq_false (by omega)
          go_wp2_with fail
          refine (inc_at HV _ hm).mono ?_
          rintro e W4 ⟨rfl, hb4⟩
          replace hm := hm.below hb4
          replace hkeep : Keeps (fun k => g ≤ k) w W4 := hkeep.trans (Keeps.of_below hb4)
          clear k0 k1 k2 hb4 hw
          have HM := Lib.hid hm
          have HK := Lib.hid hkeep
          clear hm hkeep
          go_wp2_with fail
          go_roundw
          case rel => exact ⟨k + 1, h, by omega, by go_num, hf3, HM.out, HK.out⟩
          case measure => simp [intOf]; omega
      · have hkn : k = n := by omega
        clear hlt
        subst hkn
        go_wp2_with fail
        refine (awake_any _).mono ?_
        rintro e W5 ⟨rfl, hb5⟩
        go_wp2_with fail
        go_ret
        have hbl : Below w.heap.size w wr := Keeps.below hkeep (Nat.le_refl _) fun _ h => by omega
        have hfin := hbl.trans (hb5.mono hbl.size)
        exact ⟨rfl, hfin⟩
end Go.Proofs.Ytbnfjlchmpdgeaa
