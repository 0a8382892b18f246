/-
  MembersAll, walked. No condition but what fits int.
-/
import Derived.Test.YtbnfjlchmpdgeaaRise
namespace Go.Proofs.Ytbnfjlchmpdgeaa
set_option linter.unusedVariables false
open Go.RowKit

/-- Those alive among the numbers from -1 on. -/
def from1 (t : Int) (h : St) (b : Int) (k : Nat) : List Int := ((List.range k).map fun i : Nat => (i : Int) - 1).filter fun n => aliveB t h n b
theorem from1_yes {t : Int} {h : St} {b : Int} {k : Nat} (hy : aliveB t h ((k : Int) - 1) b = true) : from1 t h b (k + 1) = from1 t h b k ++ [(k : Int) - 1] := by
  unfold from1; rw [List.range_succ, List.map_append, List.filter_append]; simp [hy]
theorem from1_no {t : Int} {h : St} {b : Int} {k : Nat} (hy : aliveB t h ((k : Int) - 1) b = false) : from1 t h b (k + 1) = from1 t h b k := by
  unfold from1; rw [List.range_succ, List.map_append, List.filter_append]; simp [hy]
theorem from1_len (t : Int) (h : St) (b : Int) (k : Nat) : (from1 t h b k).length ≤ k := by
  unfold from1; exact Nat.le_trans (List.length_filter_le _ _) (by simp)
theorem from1_all (t : Int) (h : St) (b : Int) : from1 t h b 10 = allA t h b := by
  have e : ((List.range 10).map fun i : Nat => (i : Int) - 1) = [-1] ++ ((List.range 8).map fun i : Nat => (i : Int)) ++ [8] := by decide
  unfold from1 allA
  rw [e, List.filter_append, List.filter_append]
  have a1 : aliveB t h (-1) b = false := by unfold aliveB; rw [show isB (-1) = false from by decide]; rfl
  have a2 : aliveB t h 8 b = false := by unfold aliveB; rw [show isB 8 = false from by decide]; rfl
  simp [a1, a2]
theorem allA_len (t : Int) (h : St) (b : Int) : (allA t h b).length ≤ 8 := alls_len t h b 8

set_option maxHeartbeats 1600000 in
set_option maxRecDepth 100000 in
theorem lawall_true (t : Int) (A0 : Option Addr) (n cap : Nat) (now : Int) (w : World) (hn : n ≤ cap) (hcap : cap ≤ maxLen) (hr : Row w A0 n) :
    Calls Try.prog 6 #[.int .i64 t, .slice A0 n cap, .int .i64 now] w fun e w' => e = .returned (.bool true) ∧ Below w.heap.size w w' := by
  unfold maxLen at hcap
  have HR := Lib.hid hr
  clear hr
  obtain ⟨i0, hi, hz0, hz1, hz2⟩ := info_parts infoInt
  by_cases c0 : n > 300
  · go_enter Try.func6, Try.ntmps6
    go_wp2_with fail
    refine (awake_any _).mono ?_
    rintro e W5 ⟨rfl, hb5⟩
    go_wp2_with fail
    go_ret
    exact ⟨rfl, hb5⟩
  · have c0' : n ≤ 300 := by omega
    have hd : decide ((300 : Int) < (n : Int)) = false := decide_eq_false (by omega)
    go_enter Try.func6, Try.ntmps6
    go_wp2_with fail
    refine (new_any t _).mono ?_
    rintro e W1 ⟨rfl, hm, hz, hq⟩
    generalize hg : w.heap.size = g at *
    generalize clamp t 0 1048576 = t' at *
    have hall : Keeps (fun k => g ≤ k) w W1 := hq.mono fun _ _ h => h.elim
    have HM := Lib.hid hm
    have HA := Lib.hid hall
    clear hm hall hq
    go_wp2_with fail
    go_loopw [8] (fun i wr => ∃ (k : Nat) (h : St), k ≤ n ∧ i = .int .i64 k ∧ Fits h ∧ Mem wr g t' h ∧ Keeps (fun k => g ≤ k) w wr) (fun i _ => n - (intOf i).toNat)
    case atStart => exact ⟨0, _, Nat.zero_le _, rfl, Fits.none_, HM.out, HA.out⟩
    case round =>
      obtain ⟨k, h, hk, rfl, hf, hm, hkeep⟩ := hrel
      by_cases hlt : k < n
      · obtain ⟨b, off, rfl, hbl, hc⟩ := HR.out (by omega)
        obtain ⟨x, y, z, hw, hyb⟩ := hc k hlt
        replace hw := hw.keeps hkeep (by omega)
        clear hc
        obtain ⟨k0, k1, k2⟩ := hw
        have HM2 := Lib.hid hm
        have HK := Lib.hid hkeep
        clear hm hkeep
        go_wp2_with fail
        go_still_tail 16, (by kernel_rfl)
        go_wp2_with fail
        refine (hear_any g t' h hf x y z _ HM2.out.drew).mono ?_
        rintro e W3 ⟨rfl, hm3, hq3⟩
        have hkeep : Keeps (fun k => g ≤ k) w W3 := HK.out.drew.trans (hq3.mono (own_le g))
        have hf3 : Fits (hearS h x y z) := hf.hear x y z hyb
        have HM3 := Lib.hid hm3
        have HK3 := Lib.hid hkeep
        clear k0 k1 k2 hm3 hq3 HM2 HK hkeep
        go_wp2_with fail
        go_roundw
        case rel => exact ⟨k + 1, _, by omega, by go_num, hf3, HM3.out, HK3.out⟩
        case measure => simp [intOf]; omega
      · have hkn : k = n := by omega
        clear hlt
        subst hkn
        go_wp2_with fail
        have hglt := hm.lt
        generalize hbs : wr.heap.size = base at *
        have hkb : Keeps (fun k => g ≤ k) w wr := hkeep
        have HBS := Lib.hid hbs
        clear hkeep HM HA HR hbs
        go_loopw [9, 10] (fun v i wl => ∃ j : Nat, j ≤ 10 ∧ i = .int .i64 ((j : Int) - 1) ∧ Own wl base v (from1 t' h now j) ∧ Mem wl g t' h ∧ Keeps (fun k => g ≤ k) w wl ∧ base ≤ wl.heap.size) (fun _ i _ => (9 - intOf i).toNat)
        case atStart => exact ⟨0, by omega, rfl, Own.nil_ _ _, hm, hkb, by rw [HBS.out]; exact Nat.le_refl _⟩
        case round =>
          obtain ⟨j, hj, rfl, hown, hm2, hkeep, hsz⟩ := hrel
          by_cases hlt : j < 10
          · have HO := Lib.hid hown
            have HK := Lib.hid hkeep
            clear hown hkeep hkb hm
            have e1 : IntKind.i64.wrap ((j : Int) - 1 + 1) = ((j + 1 : Nat) : Int) - 1 := by rw [IntWalk.i64_in _ (by omega)]; omega
            obtain ⟨v, hv⟩ : ∃ v, aliveB t' h ((j : Int) - 1) now = v := ⟨_, rfl⟩
            have HV := Lib.hid hv
            clear hv
            go_wp2_with fail
            refine (alive_at hf HV _ hm2).mono ?_
            rintro e W2 ⟨rfl, hb2⟩
            have hown2 := HO.out.below hb2
            have hm3 := hm2.below hb2
            have hk3 : Keeps (fun k => g ≤ k) w W2 := HK.out.trans (Keeps.of_below hb2)
            have hsz2 := Nat.le_trans hsz hb2.size
            have hlen := from1_len t' h now j
            cases v with
            | false =>
              have HN := Lib.hid (from1_no HV.out)
              go_wp2_with fail
              go_roundw
              case rel => exact ⟨j + 1, by omega, by go_num, by rw [HN.out]; exact hown2, hm3, hk3, hsz2⟩
              case measure => simp [intOf]; omega
            | true =>
              have HN := Lib.hid (from1_yes HV.out)
              have HO2 := Lib.hid hown2
              have HM3 := Lib.hid hm3
              have HK3 := Lib.hid hk3
              clear hown2 hb2 hm2 hm3 hk3 HO HK
              go_wp2_with (at_builtin; refine wpList_append_own _ rfl _ _ 41 rfl base 3 i0 (.int .i64 0) 1 8 Try.underlying41 hi hz0 hz1 hz2 rfl (by decide) _ _ _ rfl (HO2.out.alloc _) ⟨W2.heap.size, 0, none⟩ 1 1 [.int .i64 ((j : Int) - 1)] rfl rfl ?c1 ?c2 ?c3 ?c4 ?c5 ?_)
              case c1 => exact cell_one_new _ _ _
              case c2 => simp [Value.oneCell']
              case c3 => unfold maxLen; omega
              case c4 => omega
              case c5 => simp; omega
              intro v' W3 hown3 hgrow3 _
              have hown4 : Own W3 base v' (from1 t' h now (j + 1)) := by
                rw [HN.out]; unfold Own; simpa using hown3
              have hk4 : Keeps (fun k => base ≤ k) (W2.alloc (.cells #[.int .i64 ((j : Int) - 1)] 3)) W3 := keeps_grown hgrow3 HO2.out.base
              have hm4 : Mem W3 g t' h := (HM3.out.kept ((Keeps.refl (fun _ => False) _).alloc _) fun h => h).kept hk4 (by omega)
              have hk5 : Keeps (fun k => g ≤ k) w W3 := (HK3.out.alloc _).trans (hk4.mono fun _ _ h => by omega)
              have hsz3 : base ≤ W3.heap.size := Nat.le_trans hsz2 (Nat.le_trans (by simp) hk4.size)
              have HO4 := Lib.hid hown4
              have HM4 := Lib.hid hm4
              have HK5 := Lib.hid hk5
              clear hown3 hgrow3 hk4 hown4 hm4 hk5 HO2 HM3 HK3
              go_wp2_with fail
              go_roundw
              case rel => exact ⟨j + 1, by omega, by go_num, HO4.out, HM4.out, HK5.out, hsz3⟩
              case measure => simp [intOf]; omega
          · have hj10 : j = 10 := by omega
            clear hlt
            subst hj10
            go_wp2_with fail
            refine (all_any g t' h hf now _ hm2).mono ?_
            rintro e W2 ⟨v2, rfl, hown2, hb2⟩
            have hown3 := hown.below hb2
            rw [from1_all] at hown3
            have hk3 : Keeps (fun k => g ≤ k) w W2 := hkeep.trans (Keeps.of_below hb2)
            have hlen := allA_len t' h now
            go_wp2_with fail
            refine (ints_any _ _ (allA t' h now) (allA t' h now) _ hown2.rd hown3.rd (by omega) (by omega)).mono ?_
            rintro e W3 ⟨rfl, q, rfl⟩
            rw [same_all rfl fun _ _ => rfl]
            go_wp2_with fail
            refine (awake_any _).mono ?_
            rintro e W5 ⟨rfl, hb5⟩
            go_wp2_with fail
            go_ret
            have hbl : Below w.heap.size w (W2.drewN q) := (Keeps.below hk3 (Nat.le_refl _) fun _ h => by omega).drewN q
            exact ⟨rfl, hbl.trans (hb5.mono hbl.size)⟩
end Go.Proofs.Ytbnfjlchmpdgeaa
