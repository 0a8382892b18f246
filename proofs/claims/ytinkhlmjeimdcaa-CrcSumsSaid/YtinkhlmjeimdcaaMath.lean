/-
  Plain mathematics of the sum: no program in sight.
-/
namespace Go.Proofs.Ytinkhlmjeimdcaa
namespace Crc

/-- One bit shifted out. -/
def bit (c : BitVec 32) : BitVec 32 := (c >>> 1) ^^^ (0xEDB88320#32 &&& (-(c &&& 1#32)))
def bits : Nat → BitVec 32 → BitVec 32
  | 0, c => c
  | k + 1, c => bit (bits k c)
def byte (c : BitVec 32) (b : UInt8) : BitVec 32 := bits 8 (c ^^^ BitVec.ofNat 32 b.toNat)
def run (c : BitVec 32) (l : List UInt8) : BitVec 32 := l.foldl byte c
def sum (l : List UInt8) : BitVec 32 := ~~~ (run 0xFFFFFFFF#32 l)

theorem run_snoc (c : BitVec 32) (l : List UInt8) (b : UInt8) : run c (l ++ [b]) = byte (run c l) b := by
  simp [run]

/-- the bytes of the sum, highest first. -/
def tail (c : BitVec 32) : List UInt8 := [UInt8.ofNat (c.toNat / 16777216), UInt8.ofNat (c.toNat / 65536), UInt8.ofNat (c.toNat / 256), UInt8.ofNat c.toNat]
def sealed (l : List UInt8) : List UInt8 := l ++ tail (sum l)
theorem tail_len (c : BitVec 32) : (tail c).length = 4 := rfl
theorem sealed_len (l : List UInt8) : (sealed l).length = l.length + 4 := by simp [sealed, tail_len]

/-- what Open answers. -/
def opened (l : List UInt8) : List UInt8 × Int :=
  if l.length < 4 then ([], 2) else if sealed (l.take (l.length - 4)) = l then (l.take (l.length - 4), 0) else ([], 4)

theorem and1 (c : BitVec 32) : c &&& 1#32 = 0#32 ∨ c &&& 1#32 = 1#32 := by
  have h : (c &&& 1#32).toNat ≤ 1 := by rw [BitVec.toNat_and]; exact Nat.and_le_right
  have h2 : (c &&& 1#32).toNat = 0 ∨ (c &&& 1#32).toNat = 1 := by omega
  rcases h2 with h2 | h2
  · left; apply BitVec.eq_of_toNat_eq; simpa using h2
  · right; apply BitVec.eq_of_toNat_eq; simpa using h2

/-- the reference's way of a bit. -/
theorem bit_if (c : BitVec 32) : bit c = if c &&& 1#32 = 1#32 then (c >>> 1) ^^^ 0xEDB88320#32 else c >>> 1 := by
  unfold bit
  rcases and1 c with h | h
  · rw [h, if_neg (by decide)]
    have : (0xEDB88320#32 &&& -(0#32)) = 0#32 := by decide
    rw [this, BitVec.xor_zero]
  · rw [h, if_pos rfl]
    have : (0xEDB88320#32 &&& -(1#32)) = 0xEDB88320#32 := by decide
    rw [this]

theorem and1_xor (a b : BitVec 32) : (a ^^^ b) &&& 1#32 = (a &&& 1#32) ^^^ (b &&& 1#32) := by
  ext i hi
  simp only [BitVec.getElem_and, BitVec.getElem_xor]
  cases a[i] <;> cases b[i] <;> simp

theorem bit_xor (a b : BitVec 32) : bit (a ^^^ b) = bit a ^^^ bit b := by
  have hs : (a ^^^ b) >>> 1 = (a >>> 1) ^^^ (b >>> 1) := BitVec.ushiftRight_xor_distrib a b 1
  have hm : (0xEDB88320#32 &&& (-((a ^^^ b) &&& 1#32))) = (0xEDB88320#32 &&& (-(a &&& 1#32))) ^^^ (0xEDB88320#32 &&& (-(b &&& 1#32))) := by
    rw [and1_xor]
    rcases and1 a with h | h <;> rcases and1 b with h' | h' <;> rw [h, h'] <;> decide
  unfold bit
  rw [hs, hm]
  ac_rfl

theorem bits_xor (k : Nat) (a b : BitVec 32) : bits k (a ^^^ b) = bits k a ^^^ bits k b := by
  induction k with
  | zero => rfl
  | succ k ih => simp only [bits]; rw [ih, bit_xor]

theorem ofByte_xor (x y : UInt8) : BitVec.ofNat 32 (x ^^^ y).toNat = BitVec.ofNat 32 x.toNat ^^^ BitVec.ofNat 32 y.toNat := by
  apply BitVec.eq_of_toNat_eq
  have hx := x.toNat_lt
  have hy := y.toNat_lt
  have h : x.toNat ^^^ y.toNat < 2 ^ 8 := Nat.xor_lt_two_pow hx hy
  simp only [BitVec.toNat_xor, BitVec.toNat_ofNat, UInt8.toNat_xor]
  rw [Nat.mod_eq_of_lt (by omega), Nat.mod_eq_of_lt (by omega), Nat.mod_eq_of_lt (by omega)]

theorem byte_xor (a b : BitVec 32) (x y : UInt8) : byte (a ^^^ b) (x ^^^ y) = byte a x ^^^ byte b y := by
  unfold byte
  rw [ofByte_xor, ← bits_xor]
  congr 1
  ac_rfl

/-- Four states of which the fourth is the xor of the others. -/
theorem run_xor3 : ∀ (n : Nat) (f g h : Nat → UInt8) (a b c : BitVec 32),
    run (a ^^^ b ^^^ c) ((List.range n).map fun i => f i ^^^ g i ^^^ h i) = run a ((List.range n).map f) ^^^ run b ((List.range n).map g) ^^^ run c ((List.range n).map h)
  | 0, _, _, _, _, _, _ => rfl
  | n + 1, f, g, h, a, b, c => by
    simp only [List.range_succ, List.map_append, List.map_cons, List.map_nil, run_snoc]
    rw [run_xor3 n f g h a b c, byte_xor, byte_xor]

theorem linear_at (n : Nat) (f g h : Nat → UInt8) :
    sum ((List.range n).map f) ^^^ sum ((List.range n).map g) ^^^ sum ((List.range n).map h) ^^^ sum ((List.range n).map fun i => f i ^^^ g i ^^^ h i) = 0#32 := by
  have e : (0xFFFFFFFF#32 ^^^ 0xFFFFFFFF#32 ^^^ 0xFFFFFFFF#32) = 0xFFFFFFFF#32 := by decide
  have k := run_xor3 n f g h 0xFFFFFFFF#32 0xFFFFFFFF#32 0xFFFFFFFF#32
  rw [e] at k
  unfold sum
  rw [k]
  generalize run 0xFFFFFFFF#32 ((List.range n).map f) = x
  generalize run 0xFFFFFFFF#32 ((List.range n).map g) = y
  generalize run 0xFFFFFFFF#32 ((List.range n).map h) = z
  ext i hi
  simp only [BitVec.getElem_xor, BitVec.getElem_not, BitVec.getElem_zero]
  cases x[i] <;> cases y[i] <;> cases z[i] <;> rfl

theorem list_range (l : List UInt8) (n : Nat) (hn : n ≤ l.length) : l.take n = (List.range n).map fun i => l.getD i 0 := by
  apply List.ext_getElem
  · simp; omega
  · intro i h1 h2
    have hi : i < l.length := by simp at h1; omega
    simp [List.getD, List.getElem?_eq_getElem hi]

theorem linear (a b c d : List UInt8) (n : Nat) (ha : n ≤ a.length) (hb : n ≤ b.length) (hc : n ≤ c.length) (hd : d.length = n)
    (hx : ∀ i, i < n → d.getD i 0 = a.getD i 0 ^^^ b.getD i 0 ^^^ c.getD i 0) :
    sum (a.take n) ^^^ sum (b.take n) ^^^ sum (c.take n) ^^^ sum d = 0#32 := by
  have e : d = (List.range n).map fun i => a.getD i 0 ^^^ b.getD i 0 ^^^ c.getD i 0 := by
    have h := list_range d n (by omega)
    rw [List.take_of_length_le (by omega)] at h
    rw [h]
    apply List.map_congr_left
    intro i hi
    exact hx i (by simpa using hi)
  rw [list_range a n ha, list_range b n hb, list_range c n hc, e]
  exact linear_at n _ _ _

/-- what is sealed is opened. -/
theorem opened_sealed (l : List UInt8) : opened (sealed l) = (l, 0) := by
  unfold opened
  rw [if_neg (by rw [sealed_len]; omega)]
  have e : (sealed l).take ((sealed l).length - 4) = l := by
    rw [sealed_len, Nat.add_sub_cancel]
    simp [sealed]
  rw [e, if_pos rfl]

/-- what is opened was sealed. -/
theorem unsealed (l : List UInt8) (h : (opened l).2 = 0) : sealed (opened l).1 = l := by
  unfold opened at h ⊢
  by_cases h4 : l.length < 4
  · rw [if_pos h4] at h; exact absurd h (by decide)
  · rw [if_neg h4] at h ⊢
    by_cases hs : sealed (l.take (l.length - 4)) = l
    · rw [if_pos hs]; exact hs
    · rw [if_neg hs] at h; exact absurd h (by decide)
end Crc
end Go.Proofs.Ytinkhlmjeimdcaa
