/-
  sums.Of; the plain law of parts.
-/
import Derived.Test.YtccmeiflahnleaaDoorS0
namespace Go.Proofs.YtccmeiflahnleaaDoor.A
set_option linter.unusedVariables false
set_option linter.unusedSimpArgs false
open Go.RowKit

/-- the sum that goes on from s -/
def crc (s : Nat) (bs : List Nat) : Nat := not32 (bs.foldl crcb (not32 s))
theorem not32_lt {n : Nat} (h : n < 2 ^ 32) : not32 n < 2 ^ 32 := Nat.xor_lt_two_pow h (by decide)
theorem not32_not32 (n : Nat) : not32 (not32 n) = n := by
  unfold not32
  rw [Nat.xor_assoc, Nat.xor_self, Nat.xor_zero]
theorem foldl_lt (bs : List Nat) : ∀ n, n < 2 ^ 32 → bs.foldl crcb n < 2 ^ 32 := by
  induction bs with
  | nil => intro n h; exact h
  | cons b r ih => intro n h; exact ih _ (crcb_lt n b h)
theorem crc_lt (s : Nat) (bs : List Nat) (h : s < 2 ^ 32) : crc s bs < 2 ^ 32 := not32_lt (foldl_lt bs _ (not32_lt h))
/-- the sum of parts, one behind the other -/
theorem crc_append (s : Nat) (a b : List Nat) : crc (crc s a) b = crc s (a ++ b) := by
  unfold crc
  rw [not32_not32, List.foldl_append]
theorem crc_nil (s : Nat) : crc s [] = s := by
  unfold crc
  rw [List.foldl_nil, not32_not32]

/-- bytes that are read behind an address -/
structure Bytes (w : World) (A : Option Addr) (bs : List Nat) : Prop where
  reads : Reads w A (enc8 bs)
  small : ∀ b ∈ bs, b < 256
  len : (bs.length : Int) ≤ 1099511627776
theorem Bytes.below {w w1 : World} {A : Option Addr} {bs : List Nat} (h : Bytes w A bs) (hb : Below w.heap.size w w1) : Bytes w1 A bs := ⟨h.reads.below hb, h.small, h.len⟩

theorem xmore (A : Option Addr) (c : Nat) (bs : List Nat) (s : Nat) (hs : s < 2 ^ 32) (w : World) (B : Bytes w A bs) (T : TabAt w) : Calls Tryd.prog 15 #[.int .u32 (s : Int), .slice A bs.length c] w fun e w' => e = .returned (.int .u32 (crc s bs : Nat)) ∧ Below w.heap.size w w' :=
  more A c bs s hs w B.reads B.small B.len T

set_option maxHeartbeats 1000000 in
set_option maxRecDepth 100000 in
theorem xof (A : Option Addr) (c : Nat) (bs : List Nat) (w : World) (B : Bytes w A bs) (T : TabAt w) : Calls Tryd.prog 13 #[.slice A bs.length c] w fun e w' => e = .returned (.int .u32 (crc 0 bs : Nat)) ∧ Below w.heap.size w w' := by
  have M := AsideA.mk (xmore A c bs 0 (by decide) w B T)
  generalize bs.length = len at *
  generalize crc 0 bs = v at *
  go_enter Tryd.func13, Tryd.ntmps13
  go_wp2_with (go_at_call 15; refine M.out.mono ?_; rintro e wq ⟨rfl, hq⟩; have BN := AsideA.mk hq; clear hq)
  go_ret
  exact ⟨rfl, BN.out⟩
end Go.Proofs.YtccmeiflahnleaaDoor.A
