/-
  frames.Put, countinghouseref18.Put.
-/
import Derived.Test.YtccmeiflahnleaaDoorG2
namespace Go.Proofs.YtccmeiflahnleaaDoor.A
set_option linter.unusedVariables false
set_option linter.unusedSimpArgs false
open Go.RowKit

/-- two parts, one behind the other -/
theorem concat2 (A1 A2 : Option Addr) (c1 c2 g : Nat) (b1 b2 : List Nat) (w : World) (R : Reads w (some ⟨g, 0, none⟩) [.slice A1 b1.length c1, .slice A2 b2.length c2]) (B1 : Bytes w A1 b1) (B2 : Bytes w A2 b2) (h0 : 0 < b1.length + b2.length) (hl : b1.length + b2.length ≤ 1099511627776) :
    Calls Tryd.prog 35 #[.slice (some ⟨g, 0, none⟩) 2 2] w fun e w' => ∃ g' cap, e = .returned (.slice (some ⟨g', 0, none⟩) (b1.length + b2.length) cap) ∧ Fill w w' g' cap (b1 ++ b2) := by
  have e : all [⟨A1, c1, b1⟩, ⟨A2, c2, b2⟩] = b1 ++ b2 := by simp [all]
  have h := xconcat [⟨A1, c1, b1⟩, ⟨A2, c2, b2⟩] g 0 2 w R (by simp; exact ⟨B1, B2⟩) (by rw [e, List.length_append]; exact h0) (by rw [e, List.length_append]; omega) (by simp)
  rw [e, List.length_append] at h
  exact h
theorem frameP_len (body : List Nat) : (frameP body).length = (numL body.length).length + body.length + 4 := by
  unfold frameP
  rw [withSum_len, List.length_append]
theorem Fill.bytes_ {w wr : World} {g cap : Nat} {bs : List Nat} (h : Fill w wr g cap bs) (hs : ∀ b ∈ bs, b < 256) (hl : bs.length ≤ 100000) : Bytes wr (some ⟨g, 0, none⟩) bs := h.bytes hs (by omega)

set_option maxHeartbeats 2000000 in
set_option maxRecDepth 100000 in
theorem put_long (A B : Option Addr) (n m c d : Nat) (h : 8192 < m) (w : World) : Calls Tryd.prog 24 #[.slice A n c, .slice B m d] w fun e w' => e = .returned (.tuple #[.slice none 0 0, .int .i64 3]) ∧ Below w.heap.size w w' := by
  have BB := AsideA.mk (Below.refl w.heap.size w)
  go_enter Tryd.func24, Tryd.ntmps24
  go_wp2
  go_ret2
  exact ⟨rfl, BB.out⟩
set_option maxHeartbeats 2000000 in
set_option maxRecDepth 100000 in
theorem ref_put_long (A B : Option Addr) (n m c d : Nat) (h : 8192 < m) (w : World) : Calls Tryd.prog 25 #[.slice A n c, .slice B m d] w fun e w' => e = .returned (.tuple #[.slice none 0 0, .int .i64 3]) ∧ Below w.heap.size w w' := by
  have BB := AsideA.mk (Below.refl w.heap.size w)
  go_enter Tryd.func25, Tryd.ntmps25
  go_wp2
  go_ret2
  exact ⟨rfl, BB.out⟩

/-- the walk of Put: its callees by what they hand back -/
def PutNum (w : World) (nb nh : Nat) (nl : List Nat) : Prop := ∀ wz, Below w.heap.size w wz → Calls Tryd.prog 41 #[.slice none 0 0, .int .u64 (nb : Int)] wz fun e w' => ∃ g cap, e = .returned (.slice (some ⟨g, 0, none⟩) nh nh) ∧ Fill wz w' g cap nl
def PutCat (w : World) (A : Option Addr) (c n nq : Nat) (xs : List Nat) (B : Option Addr) (d m : Nat) (ys : List Nat) : Prop := ∀ wz g, Reads wz (some ⟨g, 0, none⟩) [.slice A n c, .slice B m d] → Below w.heap.size w wz → Bytes wz A xs → Bytes wz B ys → Calls Tryd.prog 35 #[.slice (some ⟨g, 0, none⟩) 2 2] wz fun e w' => ∃ g' cap, e = .returned (.slice (some ⟨g', 0, none⟩) nq cap) ∧ Fill wz w' g' cap (xs ++ ys)
theorem putCat (w : World) (A : Option Addr) (c : Nat) (xs : List Nat) (B : Option Addr) (d : Nat) (ys : List Nat) (h0 : 0 < xs.length + ys.length) (hl : xs.length + ys.length ≤ 1099511627776) : PutCat w A c xs.length (xs.length + ys.length) xs B d ys.length ys :=
  fun wz g R hb F1 F2 => concat2 A B c d g xs ys wz R F1 F2 h0 hl
def PutSum (w : World) (nq nf : Nat) (xs fr : List Nat) : Prop := ∀ wz g cap, Below w.heap.size w wz → Bytes wz (some ⟨g, 0, none⟩) xs → Calls Tryd.prog 12 #[.slice (some ⟨g, 0, none⟩) nq cap] wz fun e w' => ∃ g' cap', e = .returned (.slice (some ⟨g', 0, none⟩) nf nf) ∧ Fill wz w' g' cap' fr

set_option maxHeartbeats 4000000 in
set_option maxRecDepth 100000 in
theorem frame_walk (A B : Option Addr) (c d na nb nh nq nf nall : Nat) (nl bs body fr : List Nat) (w : World) (RA : AsideA (Bytes w A bs)) (RB : AsideA (Bytes w B body)) (h2 : nb ≤ 8192)
    (C41 : AsideA (PutNum w nb nh nl)) (S1 : AsideA ((∀ b ∈ nl, b < 256) ∧ (∀ b ∈ nl ++ body, b < 256) ∧ (∀ b ∈ fr, b < 256) ∧ nl.length ≤ 100000 ∧ (nl ++ body).length ≤ 100000 ∧ fr.length ≤ 100000 ∧ nall = (bs ++ fr).length))
    (C35 : AsideA (∀ gp cp, PutCat w (some ⟨gp, 0, none⟩) cp nh nq nl B d nb body)) (C12 : AsideA (PutSum w nq nf (nl ++ body) fr)) (C35b : AsideA (∀ gp cp, PutCat w A c na nall bs (some ⟨gp, 0, none⟩) cp nf fr)) :
    Calls Tryd.prog 24 #[.slice A na c, .slice B nb d] w fun e w' => ∃ g cap, e = .returned (.tuple #[.slice (some ⟨g, 0, none⟩) nall nall, .int .i64 0]) ∧ Fill w w' g cap (bs ++ fr) := by
  have BB := AsideA.mk (Below.refl w.heap.size w)
  go_enter Tryd.func24, Tryd.ntmps24
  go_wp2_with (go_at_call 41; go_loud (refine (C41.out _ BB.out).mono ?_; rintro e w1 ⟨g1, k1, rfl, F⟩; have F1 := AsideA.mk F; clear F))
  refine (C35.out g1 nh _ w1.heap.size (reads_built w1 22 [.slice (some ⟨g1, 0, none⟩) nh nh, .slice B nb d]) (F1.out.below.alloc F1.out.below.size _) ((F1.out.bytes_ S1.out.1 S1.out.2.2.2.1).below ((Below.refl _ _).alloc (Nat.le_refl _) _)) (RB.out.below (F1.out.below.alloc F1.out.below.size _))).mono ?_
  rintro e w2 ⟨g2, k2, rfl, F⟩
  have F2 := AsideA.mk (F.start (F1.out.below.alloc F1.out.below.size _))
  clear F F1
  go_wp2_with fail
  refine (C12.out _ g2 k2 F2.out.below (F2.out.bytes_ S1.out.2.1 S1.out.2.2.2.2.1)).mono ?_
  rintro e w3 ⟨g3, k3, rfl, F⟩
  have F3 := AsideA.mk (F.start F2.out.below)
  clear F F2
  go_wp2_with fail
  refine (C35b.out g3 nf _ w3.heap.size (reads_built w3 22 [.slice A na c, .slice (some ⟨g3, 0, none⟩) nf nf]) (F3.out.below.alloc F3.out.below.size _) (RA.out.below (F3.out.below.alloc F3.out.below.size _)) ((F3.out.bytes_ S1.out.2.2.1 S1.out.2.2.2.2.2.1).below ((Below.refl _ _).alloc (Nat.le_refl _) _))).mono ?_
  rintro e w4 ⟨g4, k4, rfl, F⟩
  have F4 := AsideA.mk (F.start (F3.out.below.alloc F3.out.below.size _))
  clear F F3
  go_wp2_with (go_at_call 34; go_loud (refine (xclip g4 nall k4 ?hcap _).mono ?_; (case hcap => have := F4.out.room; have := S1.out.2.2.2.2.2.2; omega); rintro e w5 ⟨rfl, h5⟩; have F5 := AsideA.mk (F4.out.later h5); clear h5))
  go_ret2
  exact ⟨g4, k4, rfl, F5.out⟩

theorem xframe (A B : Option Addr) (c d : Nat) (bs body : List Nat) (w : World) (RA : Bytes w A bs) (RB : Bytes w B body) (T : TabAt w) (h1 : bs.length ≤ 30000) (h2 : body.length ≤ 8192) : Calls Tryd.prog 24 #[.slice A bs.length c, .slice B body.length d] w fun e w' => ∃ g cap, e = .returned (.tuple #[.slice (some ⟨g, 0, none⟩) (bs ++ frameP body).length (bs ++ frameP body).length, .int .i64 0]) ∧ Fill w w' g cap (bs ++ frameP body) := by
  have hnl : (numL body.length).length ≤ 10 := numL_len 9 body.length (Nat.lt_of_le_of_lt h2 (by decide))
  have hfl := frameP_len body
  have hp := numL_pos body.length
  have hnb := numL_bytes body.length
  have hfb : ∀ b ∈ numL body.length ++ body, b < 256 := fun b hb => by
    rcases List.mem_append.1 hb with h | h
    · exact hnb b h
    · exact RB.small b h
  have hla : (numL body.length ++ body).length = (numL body.length).length + body.length := List.length_append
  have hlb : (bs ++ frameP body).length = bs.length + (frameP body).length := List.length_append
  refine frame_walk A B c d bs.length body.length (numL body.length).length (numL body.length ++ body).length (frameP body).length (bs ++ frameP body).length (numL body.length) bs body (frameP body) w ⟨RA⟩ ⟨RB⟩ h2 ⟨fun wz _ => xnum body.length h2 wz⟩ ⟨hnb, hfb, withSum_small hfb, by omega, by omega, by omega, rfl⟩ ⟨fun gp cp => ?_⟩ ⟨fun wz g cap hb F => ?_⟩ ⟨fun gp cp => ?_⟩
  · rw [hla]
    exact putCat w _ cp _ B d body (by omega) (by omega)
  · have h := xput (some ⟨g, 0, none⟩) cap (numL body.length ++ body) wz F (by omega) (T.below hb)
    have e : (numL body.length ++ body).length + 4 = (frameP body).length := by omega
    rw [e] at h
    exact h
  · rw [hlb]
    exact putCat w A c bs _ cp _ (by omega) (by omega)
end Go.Proofs.YtccmeiflahnleaaDoor.A

