/-
  The sum of bytes (sums.More): a walk over a table that lies in a variable of the program.
-/
import Derived.Test.YtccmeiflahnleaaDoorProg
import Derived.Test.YtccmeiflahnleaaDoorTw
import Derived.Laws.BitsLemmas
import Derived.KernelRfl
import Derived.Outline
import Derived.BigQuiet
import Derived.Deep.QuietTactic
namespace Go.Proofs.YtccmeiflahnleaaDoor.A
set_option linter.unusedVariables false
set_option linter.unusedSimpArgs false
open Go.RowKit

def tab : List Nat := [0x00000000, 0x1db71064, 0x3b6e20c8, 0x26d930ac, 0x76dc4190, 0x6b6b51f4, 0x4db26158, 0x5005713c, 0xedb88320, 0xf00f9344, 0xd6d6a3e8, 0xcb61b38c, 0x9b64c2b0, 0x86d3d2d4, 0xa00ae278, 0xbdbdf21c]
/-- the table, where the program's variable lies -/
def TabAt (w : World) : Prop := ∀ i, i < 16 → w.cell? ⟨0, i, none⟩ = some (.int .u32 ((tab.getD i 0 : Nat) : Int))
theorem TabAt.below {w w1 : World} (h : TabAt w) (hb : Below w.heap.size w w1) : TabAt w1 := fun i hi => by
  have h1 := h i hi
  have hk : 0 < w.heap.size := by
    unfold World.cell? at h1
    split at h1
    · rename_i hh
      exact blk_lt hh
    · cases h1
  rw [← h1]
  unfold World.cell?
  rw [hb.block 0 hk]
def nib (n c : Nat) : Nat := (n >>> 4) ^^^ tab.getD ((n ^^^ c) &&& 15) 0
def crcb (n c : Nat) : Nat := nib (nib n c) (c >>> 4)
def not32 (n : Nat) : Nat := n ^^^ 4294967295
def enc8 (bs : List Nat) : List Value := bs.map fun (b : Nat) => Value.int .u8 (b : Int)

theorem Reads.get8 {w : World} {A : Option Addr} {bs : List Nat} (h : Reads w A (enc8 bs)) (hb : ∀ b ∈ bs, b < 256) (k : Nat) (hk : k < bs.length) : ∃ g off, ∃ x : Nat, A = some ⟨g, off, none⟩ ∧ w.cell? ⟨g, off + k, none⟩ = some (.int .u8 (x : Int)) ∧ x < 256 ∧ bs[k]? = some x := by
  have hg : ∀ j (hj : j < bs.length), (enc8 bs)[j]? = some (.int .u8 (bs[j] : Int)) := fun j hj => by
    unfold enc8
    simp [List.getElem?_map, hj]
  rcases h with h | ⟨ad, rfl, h⟩
  · have : (enc8 bs).length = bs.length := List.length_map _
    rw [h, List.length_nil] at this
    omega
  · have hh := h k _ (hg k hk)
    obtain ⟨g, off, sp⟩ := ad
    cases sp with
    | none => exact ⟨g, off, bs[k], rfl, by rw [← add_none]; exact hh, hb _ (List.getElem_mem hk), List.getElem?_eq_getElem hk⟩
    | some s =>
      exfalso
      have h0 := h 0 _ (hg 0 (by omega))
      unfold World.cell? at h0
      split at h0 <;> simp_all [Addr.add]

theorem u32_wrap (n : Int) (h1 : 0 ≤ n) (h2 : n < 2 ^ 32) : IntKind.u32.wrap n = n := by
  rw [IntKind.wrap_u32]
  have : (2 : Int) ^ 32 = 4294967296 := by decide
  omega
theorem xor32 (a b : Nat) (ha : a < 2 ^ 32) (hb : b < 2 ^ 32) : bits .xor .u32 (a : Int) (b : Int) = ((a ^^^ b : Nat) : Int) := by
  have cast : ((a ^^^ b : Nat) : Int) < 2 ^ 32 := by exact_mod_cast Nat.xor_lt_two_pow ha hb
  have ha' : a % 2 ^ IntKind.u32.bits = a := Nat.mod_eq_of_lt ha
  have hb' : b % 2 ^ IntKind.u32.bits = b := Nat.mod_eq_of_lt hb
  simp only [bits, BitVec.ofInt_natCast, BitVec.toNat_xor, BitVec.toNat_ofNat, ha', hb']
  exact u32_wrap _ (Int.natCast_nonneg _) cast
theorem and32 (a b : Nat) (ha : a < 2 ^ 32) (hb : b < 2 ^ 32) : bits .and .u32 (a : Int) (b : Int) = ((a &&& b : Nat) : Int) := (bits_nat .u32 32 (by decide) u32_wrap a b ha hb).1
theorem tab_lt (i : Nat) : tab.getD i 0 < 2 ^ 32 := by
  by_cases h : i < 16
  · have : ∀ i, i < 16 → tab.getD i 0 < 2 ^ 32 := by decide
    exact this i h
  · rw [List.getD_eq_getElem?_getD, List.getElem?_eq_none (by show 16 ≤ i; omega)]
    decide
theorem nib_lt (n c : Nat) (hn : n < 2 ^ 32) : nib n c < 2 ^ 32 := Nat.xor_lt_two_pow (Nat.lt_of_le_of_lt (Nat.shiftRight_le n 4) hn) (tab_lt _)
theorem crcb_lt (n c : Nat) (hn : n < 2 ^ 32) : crcb n c < 2 ^ 32 := nib_lt _ _ (nib_lt _ _ hn)
/-- what one half of a byte does, in the walk's own forms -/
theorem half (m x : Nat) (hm : m < 2 ^ 32) (hx : x < 256) : ∃ y z t m1 : Nat, bits .xor .u32 (m : Int) ((x : Int) % 4294967296) = (y : Int) ∧ bits .and .u32 (y : Int) 15 = (z : Int) ∧ z < 16 ∧ t = tab.getD z 0 ∧ bits .xor .u32 ((m : Int) / 16) (t : Int) = (m1 : Int) ∧ m1 = nib m x := by
  have e1 : (x : Int) % 4294967296 = (x : Int) := by omega
  have hx' : x < 2 ^ 32 := Nat.lt_trans hx (by decide)
  have hz : (m ^^^ x) &&& 15 < 16 := Nat.and_lt_two_pow (n := 4) _ (by decide)
  refine ⟨m ^^^ x, (m ^^^ x) &&& 15, tab.getD ((m ^^^ x) &&& 15) 0, nib m x, ?_, ?_, hz, rfl, ?_, rfl⟩
  · rw [e1, xor32 m x hm hx']
  · exact and32 _ 15 (Nat.xor_lt_two_pow hm hx') (by decide)
  · have e : (m : Int) / (16 : Int) = ((m >>> 4 : Nat) : Int) := by rw [Nat.shiftRight_eq_div_pow]; omega
    rw [e, xor32 _ _ (Nat.lt_of_le_of_lt (Nat.shiftRight_le m 4) hm) (tab_lt _)]
    rfl

set_option maxHeartbeats 1000000 in
set_option maxRecDepth 100000 in
theorem more (A : Option Addr) (c : Nat) (bs : List Nat) (s : Nat) (hs : s < 2 ^ 32) (w : World) (R : Reads w A (enc8 bs)) (hb : ∀ b ∈ bs, b < 256) (hlen : (bs.length : Int) ≤ 1099511627776) (T : TabAt w) : Calls Tryd.prog 15 #[.int .u32 (s : Int), .slice A bs.length c] w fun e w' => e = .returned (.int .u32 (not32 (bs.foldl crcb (not32 s)) : Nat)) ∧ Below w.heap.size w w' := by
  have HR := AsideA.mk R
  have HT := AsideA.mk T
  have HB := AsideA.mk hb
  obtain ⟨len, hl⟩ : ∃ len, len = bs.length := ⟨_, rfl⟩
  rw [← hl] at hlen ⊢
  have HL := AsideA.mk hl
  have hsg : IntKind.u32.signed = false := rfl
  have hn0 : bits .xor .u32 IntKind.u32.max (s : Int) = ((not32 s : Nat) : Int) := by
    have := xor32 4294967295 s (by decide) hs
    unfold not32
    rw [Nat.xor_comm]
    exact this
  have HN := AsideA.mk (show not32 s < 2 ^ 32 from Nat.xor_lt_two_pow hs (by decide))
  clear hl R T hb
  generalize hns : not32 s = ns at *
  have HNS := AsideA.mk hns
  clear hns
  go_enter Tryd.func15, Tryd.ntmps15
  go_wp2
  have I0 : AsideA (Below w.heap.size w w ∧ ns = (bs.take 0).foldl crcb ns ∧ ns < 2 ^ 32) := ⟨Below.refl _ _, rfl, HN.out⟩
  clear hn0 hs
  go_loopw [5, 12] (fun n i wr => ∃ k : Nat, ∃ m : Nat, k ≤ len ∧ i = .int .i64 k ∧ n = .int .u32 (m : Int) ∧ AsideA (Below w.heap.size w wr ∧ m = (bs.take k).foldl crcb ns ∧ m < 2 ^ 32)) (fun _ i _ => len - (intOf i).toNat)
  case atStart => exact ⟨0, ns, by omega, rfl, rfl, I0⟩
  case round =>
    obtain ⟨k, m, hk, rfl, rfl, I⟩ := hrel
    clear I0
    by_cases hlt : k < len
    · have hk' : k < bs.length := by have := HL.out; omega
      obtain ⟨g, off, x, rfl, hc, hx, hxx⟩ : ∃ g off, ∃ x : Nat, A = some ⟨g, off, none⟩ ∧ wr.cell? ⟨g, off + k, none⟩ = some (.int .u8 (x : Int)) ∧ x < 256 ∧ bs[k]? = some x := (HR.out.below I.out.1).get8 HB.out k hk'
      obtain ⟨y, z, t, m1, e1, e2, hz, e3, e4, e5⟩ := half m x I.out.2.2 hx
      have hm1 : m1 < 2 ^ 32 := e5 ▸ nib_lt m x I.out.2.2
      obtain ⟨y', z', t', m2, f1, f2, hz', f3, f4, f5⟩ := half m1 (x >>> 4) hm1 (Nat.lt_of_le_of_lt (Nat.shiftRight_le x 4) hx)
      have hcell1 := HT.out.below I.out.1 z hz
      have hcell2 := HT.out.below I.out.1 z' hz'
      rw [← e3] at hcell1
      rw [← f3] at hcell2
      have e6 : ((x >>> 4 : Nat) : Int) = (x : Int) / (16 : Int) := by rw [Nat.shiftRight_eq_div_pow]; omega
      rw [e6] at f1
      have F := AsideA.mk (show m2 = crcb m x by rw [f5, e5]; rfl)
      have hxx := AsideA.mk hxx
      clear e3 f3 e5 f5 e6 hm1 hx
      go_wp2
      refine ⟨⟨k + 1, m2, by omega, by go_num, rfl, ⟨I.out.1, ?_, ?_⟩⟩, by simp [intOf]; omega⟩
      · rw [F.out, I.out.2.1, List.take_add_one, hxx.out]
        simp
      · rw [F.out]
        exact crcb_lt _ _ I.out.2.2
    · have e : bs.take k = bs := List.take_of_length_le (by have := HL.out; omega)
      have hm := I.out.2.1
      rw [e] at hm
      have hx2 : bits .xor .u32 IntKind.u32.max (m : Int) = ((not32 m : Nat) : Int) := by
        have := xor32 4294967295 m (by decide) I.out.2.2
        unfold not32
        rw [Nat.xor_comm]
        exact this
      have HM := AsideA.mk hm
      clear hm e
      go_wp2
      go_ret
      exact ⟨by rw [← HM.out]; rfl, I.out.1⟩
end Go.Proofs.YtccmeiflahnleaaDoor.A
