/-
  The walk of CrcLinear: it returns true for every three texts. No condition beyond lengths that fit int.
-/
import Derived.Test.YtinkhlmjeimdcaaLaws
import Derived.OwnWalk
import Derived.Deep.Quiet
import Derived.Deep.QuietTactic
import Derived.StillTailTactics
import Derived.RegionTactic
import Derived.Deep.LoopGhost
import Derived.Deep.DeepCutAuto
namespace Go.Proofs.Ytinkhlmjeimdcaa
open Go.RowKit

theorem info5 : (Try.prog.info? 5).map (fun i => (i.zero, i.size, i.bytes)) = some (some (.int .u8 0), 1, 1) := by kernel_rfl

/-- A row of bytes that is known whole. -/
def BRow (w : World) (g : Nat) (l : List UInt8) : Prop := w.heap[g]? = some (.cells (l.map fun b => Value.int .u8 (b.toNat : Int)).toArray 5 (0, 0))

theorem BRow.cell {w : World} {g : Nat} {l : List UInt8} (h : BRow w g l) {k : Nat} (hk : k < l.length) : w.cell? ⟨g, k, none⟩ = some (.int .u8 ((l.getD k 0).toNat : Int)) := by
  unfold BRow at h
  rw [cell_of_row w g k _ 5 (0, 0) h]
  simp [List.getD, List.getElem?_eq_getElem hk]
theorem BRow.free {w : World} {g : Nat} {l : List UInt8} (h : BRow w g l) (k : Nat) : w.frozen? ⟨g, k, none⟩ = false := frozen_of_row w g k _ 5 h
theorem BRow.drew {w : World} {g : Nat} {l : List UInt8} (h : BRow w g l) : BRow w.drew g l := h
theorem BRow.set {w : World} {g : Nat} {l : List UInt8} (h : BRow w g l) {k : Nat} {y : UInt8} {x : Int} (hx : x = (y.toNat : Int)) : BRow (w.setCell ⟨g, k, none⟩ (.int .u8 x)) g (l.set k y) := by
  subst hx
  unfold BRow at *
  simp only [World.setCell, Array.getElem?_modify, h]
  simp [List.map_set]
theorem BRow.kept {w w' : World} {g : Nat} {l : List UInt8} (h : BRow w g l) (hb : Below w.heap.size w w') : BRow w' g l := by
  unfold BRow at *
  rw [hb.block g (Array.getElem?_eq_some_iff.1 h).1]; exact h

theorem make_bytes (w : World) (n : Nat) (h : n ≤ 10000) : ∃ W : World, (Instr.makeSlice 32 (.int .i64 (n : Int)) (.int .i64 (n : Int))).run Try.prog w = .ok (.slice (some ⟨w.heap.size, 0, none⟩) n n) W ∧
    BRow W w.heap.size (List.replicate n 0) ∧ Below w.heap.size w W := by
  obtain ⟨i0, hi, hz0, hz1, hz2⟩ := info_parts info5
  have hr := run_make (P := Try.prog) w 32 5 i0 (.int .u8 0) Try.underlying32 hi hz0 .i64 .i64 n n (by omega) (by omega) (by rw [hz2]; omega) (by omega)
  simp only [Int.toNat_natCast] at hr
  refine ⟨_, hr, ?_, (Below.refl _ _).alloc (Nat.le_refl _) _⟩
  unfold BRow
  rw [hz1]
  simp only [World.alloc, Array.getElem?_push_size]
  congr 2
  apply Array.toList_inj.1
  rw [show (Value.int IntKind.u8 0).cells = #[Value.int IntKind.u8 0] from rfl, toList_madeCells_one]
  simp

theorem getD_set_self (l : List UInt8) (k : Nat) (v : UInt8) (h : k < l.length) : (l.set k v).getD k 0 = v := by
  simp [List.getD, h]
theorem getD_set_ne' (l : List UInt8) (k j : Nat) (v : UInt8) (h : ¬ j = k) : (l.set k v).getD j 0 = l.getD j 0 := by
  simp [List.getD, Ne.symm h]
theorem getD_byte (s : ByteArray) (k : Nat) (h : k < s.size) : s.data.toList.getD k 0 = s[k] := by
  have h' : k < s.data.toList.length := by simpa using h
  rw [List.getD, List.getElem?_eq_getElem h']
  rfl
theorem xor_three (x y z : UInt8) : bits BinOp.xor IntKind.u8 (bits BinOp.xor IntKind.u8 (x.toNat : Int) (y.toNat : Int)) (z.toNat : Int) = ((x ^^^ y ^^^ z).toNat : Int) := by
  have hx := x.toNat_lt
  have hy := y.toNat_lt
  have hz := z.toNat_lt
  have h1 : x.toNat ^^^ y.toNat < 2 ^ 8 := Nat.xor_lt_two_pow hx hy
  rw [u8_xor_nat _ _ hx hy, u8_xor_nat _ _ h1 hz, UInt8.toNat_xor, UInt8.toNat_xor]

/-- The worlds in which the last statement goes on. -/
def InC (w : World) (g : Nat) (l : List UInt8) (w' : World) : Prop := BRow w' g l ∧ g < w'.heap.size ∧ Below g w w'

theorem lin_eq (x y z v : BitVec 32) (h : x ^^^ y ^^^ z ^^^ v = 0#32) : (bits BinOp.xor .u32 (bits BinOp.xor .u32 (bits BinOp.xor .u32 (x.toNat : Int) (y.toNat : Int)) (z.toNat : Int)) (v.toNat : Int) == 0) = true := by
  rw [bits_xor32 (x.toNat : Int), ofInt_toNat, ofInt_toNat, bits_xor32 (((x ^^^ y).toNat : Nat) : Int), ofInt_toNat, ofInt_toNat, bits_xor32, ofInt_toNat, ofInt_toNat, h]
  rfl
theorem conv_InC {w : World} {g : Nat} {l : List UInt8} {k : Nat} (hl : l.length = k) {w' : World} (h : InC w g l w') :
    (convert 32 9 (.slice (some ⟨g, 0, none⟩) k k)).run Try.prog w' = .ok (.string ⟨l.toArray⟩) w' := by
  subst hl
  refine run_convert_bytes_back (P := Try.prog) w' 32 9 5 ⟨g, 0, none⟩ l.length l Try.underlying32 Try.underlying5 Try.underlying9 ?_
  intro j hj
  rw [Addr.add_lit, Nat.zero_add, h.1.cell hj, List.getD, List.getElem?_eq_getElem hj]
  rfl
theorem sum_InC (w : World) (g : Nat) (l : List UInt8) (s : ByteArray) (w' : World) (hs : s.size ≤ maxLen) (h : InC w g l w') :
    ∀ x : BitVec 32, Hid (x = Crc.sum s.data.toList) → Calls Try.prog 7 #[.string s] w' fun e w'' => e = .returned (.int .u32 (x.toNat : Int)) ∧ InC w g l w'' := fun x hx =>
  (sum_any s w' hs).mono fun e w'' ⟨he, hb⟩ => ⟨by rw [hx.out]; exact he, h.1.kept hb, by have := hb.size; have := h.2.1; omega, h.2.2.trans (hb.mono (Nat.le_of_lt h.2.1))⟩

theorem awake_InC {w : World} {g : Nat} {l : List UInt8} {w' : World} (h : InC w g l w') :
    Calls Try.prog 11 #[] w' fun e w'' => e = .returned (.bool true) ∧ InC w g l w'' :=
  (awake_any w').mono fun e w'' ⟨he, hb⟩ => ⟨he, h.1.kept hb, by have := hb.size; have := h.2.1; omega, h.2.2.trans (hb.mono (Nat.le_of_lt h.2.1))⟩
theorem take_extract (s : ByteArray) (k : Nat) : (s.extract 0 k).data.toList = s.data.toList.take k := by
  rw [ByteArray.data_extract]; simp

set_option maxHeartbeats 1000000 in
theorem linear_walk (a : ByteArray) (wa : a.size ≤ maxLen) (b : ByteArray) (_wb : b.size ≤ maxLen) (c : ByteArray) (_wc : c.size ≤ maxLen) (w : World) :
    Calls Try.prog 6 #[.string a, .string b, .string c] w fun e w' => e = .returned (.bool true) ∧ Below w.heap.size w w' := by
  unfold maxLen at wa
  obtain ⟨n, hn⟩ : ∃ n : Nat, n = min (min a.size b.size) c.size := ⟨_, rfl⟩
  have ha : n ≤ a.size := by omega
  have hb : n ≤ b.size := by omega
  have hc : n ≤ c.size := by omega
  have HN := Lib.hid hn
  clear hn
  go_enter Try.func6, Try.ntmps6
  go_upto_region 1 with fail
  go_cut [7] (fun s7 wx => s7 = .int .i64 (n : Int) ∧ w = wx)
  case first =>
    go_wp2_with fail
    all_goals
      go_meet
      exact ⟨by rw [HN.out]; congr 1; omega, rfl⟩
  case rest =>
    obtain ⟨rfl, rfl⟩ := hcut
    by_cases h : n > 10000
    · go_wp2_with fail
      refine (awake_any _).mono ?_
      rintro e W5 ⟨rfl, hb5⟩
      go_wp2_with fail
      go_ret
      exact ⟨rfl, hb5⟩
    · obtain ⟨W, hmk, hrow, hbW⟩ := make_bytes w n (by omega)
      have HR := Lib.hid hrow
      clear hrow
      have hg : w.heap.size < W.heap.size := by
        have := HR.out
        unfold BRow at this
        exact (Array.getElem?_eq_some_iff.1 this).1
      go_wp2_with fail
      go_loopw [9] (fun i wr => ∃ (k : Nat) (l : List UInt8), k ≤ n ∧ i = .int .i64 k ∧ BRow wr w.heap.size l ∧ l.length = n ∧ (∀ j, j < k → l.getD j 0 = a.data.toList.getD j 0 ^^^ b.data.toList.getD j 0 ^^^ c.data.toList.getD j 0) ∧ Below w.heap.size w wr) (fun i _ => n - (intOf i).toNat)
      case atStart => exact ⟨0, _, Nat.zero_le _, rfl, HR.out, by simp, fun j h => by omega, hbW⟩
      case round =>
        obtain ⟨k, l, hk, rfl, hrow, hl, hx, hbr⟩ := hrel
        have HROW := Lib.hid hrow
        have HX := Lib.hid hx
        have HL := Lib.hid hl
        clear hrow hx hl
        by_cases hlt : k < n
        · go_wp2_with fail
          have hcell := (HROW.out).cell (k := k) (by rw [HL.out]; exact hlt)
          have hfree := (HROW.out).free k
          have ka : k < a.size := by omega
          have kb : k < b.size := by omega
          have kc : k < c.size := by omega
          go_region
          go_wp2_with fail
          go_roundw
          case rel =>
            refine ⟨k + 1, l.set k (a[k] ^^^ b[k] ^^^ c[k]), by omega, by go_num, ((HROW.out).set (xor_three _ _ _)).drew, by rw [List.length_set]; exact HL.out, ?_, (hbr.setCell (Nat.le_refl _) _).drew⟩
            intro j hj
            by_cases hjk : j = k
            · subst hjk
              rw [getD_set_self _ _ _ (by rw [HL.out]; exact hlt), getD_byte _ _ ka, getD_byte _ _ kb, getD_byte _ _ kc]
            · rw [getD_set_ne' _ _ _ _ hjk]
              exact HX.out j (by omega)
          case measure => simp [intOf]; omega
        · go_wp2_with fail
          obtain rfl : k = n := by omega
          have hC : InC w w.heap.size l { wr with drawn := wr.drawn + 1 } := ⟨HROW.out, by have := hbr.size; have := (Array.getElem?_eq_some_iff.1 HROW.out).1; show w.heap.size < wr.heap.size; omega, hbr.drew⟩
          refine wp_region_quiet (C := InC w w.heap.size l) (by kernel_rfl) (by kernel_rfl) hC ?_
          clear hlt hk
          obtain ⟨xa, hxa⟩ : ∃ x, x = Crc.sum (a.extract 0 k).data.toList := ⟨_, rfl⟩
          obtain ⟨xb, hxb⟩ : ∃ x, x = Crc.sum (b.extract 0 k).data.toList := ⟨_, rfl⟩
          obtain ⟨xc, hxc⟩ : ∃ x, x = Crc.sum (c.extract 0 k).data.toList := ⟨_, rfl⟩
          obtain ⟨xd, hxd⟩ : ∃ x, x = Crc.sum (⟨l.toArray⟩ : ByteArray).data.toList := ⟨_, rfl⟩
          have hlin := lin_eq xa xb xc xd (by
            rw [hxa, hxb, hxc, hxd, take_extract, take_extract, take_extract]
            exact Crc.linear _ _ _ l k (by simpa using ha) (by simpa using hb) (by simpa using hc) HL.out HX.out)
          have XA : Hid _ := Lib.hid hxa
          have XB : Hid _ := Lib.hid hxb
          have XC : Hid _ := Lib.hid hxc
          have XD : Hid _ := Lib.hid hxd
          clear hxa hxb hxc hxd
          have hll : l.length ≤ 10000 := by have := HL.out; omega
          repeat
            refine wpQuiet_step (fun K hK => ?_)
            go_simp
            first
              | (refine ⟨_, fun _ _ => rfl, hK _ ?_⟩; clear hK K)
              | (refine ⟨_, fun W2 hW2 => ((sum_InC _ _ _ _ _ ?_ hW2) _ (by first | exact XA | exact XB | exact XC | exact XD)), hK _ ?_⟩; (· first | (rw [ByteArray.size_extract]; unfold maxLen; omega) | (show l.toArray.size ≤ maxLen; rw [List.size_toArray]; unfold maxLen; omega)); clear hK K)
              | (refine ⟨.string ⟨l.toArray⟩, fun W2 hW2 => ?_, hK _ ?_⟩; (· rw [conv_InC HL.out hW2]; exact ⟨rfl, rfl⟩); clear hK K)
              | (refine ⟨.bool true, fun W2 hW2 => awake_InC hW2, hK _ ?_⟩; clear hK K)
          refine wpQuiet_nil ?_
          intro W3 hW3
          go_wp2_with fail
          go_ret
          exact ⟨rfl, hW3.2.2⟩
end Go.Proofs.Ytinkhlmjeimdcaa
