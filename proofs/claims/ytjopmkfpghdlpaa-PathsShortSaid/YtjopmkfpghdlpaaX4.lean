/-
  paths.hops: how far each party is from one.
-/
import Derived.Test.YtjopmkfpghdlpaaX3
import Derived.Deep.LoopGhost
namespace Go.Proofs.Ytjopmkfpghdlpaa.A
set_option linter.unusedVariables false
set_option linter.unusedSimpArgs false
open Go.RowKit

def dV (D : List Int) : Array Value := (D.map fun (d : Int) => Value.int .i64 d).toArray
theorem dV_at (D : List Int) (i : Nat) (h : i < D.length) : (dV D)[i]? = some (.int .i64 (gi D i)) := by
  unfold dV gi
  rw [List.getElem?_toArray, List.getElem?_map]
  simp [List.getD_eq_getElem?_getD, h]
theorem dV_set (D : List Int) (i : Nat) (x : Int) : (dV D).setIfInBounds i (.int .i64 x) = dV (D.set i x) := by
  unfold dV
  rw [List.setIfInBounds_toArray, List.map_set]
theorem dV_size (D : List Int) : (dV D).size = D.length := by simp [dV]
theorem dV_one (D : List Int) : ∀ v ∈ (dV D).toList, v.oneCell' = true := by
  intro v hv
  simp [dV] at hv
  obtain ⟨x, _, rfl⟩ := hv
  rfl
theorem zero55 : (Try.prog.info? 55).bind (·.zero) = some (.agg (dV (List.replicate 17 0))) := by kernel_rfl
theorem size55 (D : List Int) (h : D.length = 17) : (Try.prog.info? 55).map (·.size) = some (dV D).size := by rw [dV_size, h]; kernel_rfl
/-- is there an edge? -/
def Edg (cp : List Int) (p q : Nat) : Prop := 0 < capF cp p q

structure HpAt (w wr : World) (gr go : Nat) (D : List Int) : Prop where
  blk : wr.heap[go]? = some (.cells (dV D) 55 (0, 0))
  res : wr.heap[gr]? = some (.cells (dV (List.replicate 17 0)) 55 (0, 0))
  ne : go ≠ gr
  below : Below w.heap.size w wr
  ge : w.heap.size ≤ go
  ger : w.heap.size ≤ gr
theorem HpAt.later {w wr w1 : World} {gr go : Nat} {D : List Int} (h : HpAt w wr gr go D) (k : Below wr.heap.size wr w1) : HpAt w w1 gr go D :=
  ⟨blk_below h.blk k, blk_below h.res k, h.ne, below_call h.below k, h.ge, h.ger⟩
theorem HpAt.set {w wr : World} {gr go : Nat} {D : List Int} (h : HpAt w wr gr go D) (i : Nat) (x : Int) : HpAt w (wr.setCell ⟨go, i, none⟩ (.int .i64 x)) gr go (D.set i x) :=
  ⟨by rw [blk_set h.blk, dV_set], blk_set_other h.res _ _ h.ne.symm, h.ne, below_set h.below h.ge, h.ge, h.ger⟩
theorem HpAt.grown {w wr w1 : World} {gr go g : Nat} {D : List Int} (h : HpAt w wr gr go D) (hg : wr.grownBy w1 (some g)) (h1 : go ≠ g) (h2 : gr ≠ g) (h3 : w.heap.size ≤ g) : HpAt w w1 gr go D :=
  ⟨(hg.block go (blk_lt h.blk) (fun e => h1 (Option.some.inj e))).trans h.blk, (hg.block gr (blk_lt h.res) (fun e => h2 (Option.some.inj e))).trans h.res, h.ne, h.below.grown hg h.below.size (fun k hk => by cases hk; exact h3), h.ge, h.ger⟩

theorem fill_set (k : Nat) (h : k < 17) : (List.replicate k (17 : Int) ++ List.replicate (17 - k) 0).set k 17 = List.replicate (k + 1) (17 : Int) ++ List.replicate (17 - (k + 1)) 0 := by
  rw [List.set_append_right _ _ (by simp), List.length_replicate, Nat.sub_self]
  rw [show 17 - k = (17 - (k + 1)) + 1 by omega, List.replicate_succ, List.set_cons_zero, List.replicate_succ', List.append_assoc]
  rfl
theorem drop_cons {l : List Nat} {k : Nat} (h : k < l.length) : l.drop k = gn l k :: l.drop (k + 1) := by
  rw [List.drop_eq_getElem_cons h]
  congr 1
  unfold gn
  rw [List.getD_eq_getElem?_getD, List.getElem?_eq_getElem h]
  rfl

set_option maxHeartbeats 8000000 in
set_option maxRecDepth 100000 in
theorem xhops (G : Option Addr) (cp : List Int) (to : Nat) (w : World) (H : GrAt w G cp) (h1 : 1 ≤ to) (h2 : to ≤ 16) : Calls Try.prog 52 #[.pointer G, .int .u8 (to : Int)] w fun e w' => ∃ D, e = .returned (.agg (dV D)) ∧ Hops (Edg cp) to D ∧ Below w.heap.size w w' := by
  have HG := AsideA.mk (fun (wz : World) (h : Below w.heap.size w wz) (a b : Nat) => xcap G cp a b wz (H.below h))
  have HT := AsideA.mk (Bfs.start (Edg cp) to h1 h2)
  have t0 : (0 : Int) ≤ (to : Int) := by omega
  have t1 : (to : Int) < 17 := by omega
  clear H
  go_enter Try.func52, Try.ntmps52
  go_wp2_with (first
    | ((with_reducible refine gate (N := 4) rfl ?_); refine alloc_new 55 rfl rfl _ zero55 _ rfl ?_; intro gr w1 N1)
    | ((with_reducible refine gate (N := 5) rfl ?_); refine alloc_new 55 rfl rfl _ zero55 _ rfl ?_; intro go w2 N2; have I0 : AsideA (HpAt w w2 gr go (List.replicate 0 (17 : Int) ++ List.replicate (17 - 0) 0)) := ⟨⟨N2.blk, blk_below N1.blk N2.below, (N2.ne N1.blk).symm, below_new (below_new (Below.refl _ _) N1) N2, N2.ge (below_new (Below.refl _ _) N1), N1.ge (Below.refl _ _)⟩⟩; clear N1 N2))
  go_loopw [10] (fun i wr => ∃ k : Nat, k ≤ 17 ∧ i = .int .i64 k ∧ AsideA (HpAt w wr gr go (List.replicate k (17 : Int) ++ List.replicate (17 - k) 0))) (fun i _ => 17 - (intOf i).toNat)
  case atStart => exact ⟨0, by omega, rfl, I0⟩
  case round =>
    clear I0
    obtain ⟨k, hk, rfl, I⟩ := hrel
    by_cases hlt : k < 17
    · have c0 := (blk_cell I.out.blk k).trans (dV_at _ k (by simp; omega))
      have f0 := blk_frozen I.out.blk k
      have k0 : (0 : Int) ≤ (k : Int) := by omega
      have k1 : (k : Int) < 17 := by omega
      have FS := AsideA.mk (fill_set k hlt)
      have IS := AsideA.mk (I.out.set k 17)
      clear I
      generalize gi (List.replicate k (17 : Int) ++ List.replicate (17 - k) 0) k = v0 at *
      go_wp2
      exact ⟨⟨k + 1, by omega, by go_num, by rw [← FS.out]; exact IS⟩, by simp [intOf]; omega⟩
    · have hk17 : k = 17 := by omega
      subst hk17
      rw [show ((17 : Nat) : Int) = 17 from rfl]
      have e17 : List.replicate 17 (17 : Int) ++ List.replicate (17 - 17) 0 = List.replicate 17 (17 : Int) := by decide
      rw [e17] at I
      have c0 := (blk_cell I.out.blk to).trans (dV_at _ to (by simp; omega))
      have f0 := blk_frozen I.out.blk to
      have IS := AsideA.mk (I.out.set to 0)
      clear I e17
      generalize gi (List.replicate 17 (17 : Int)) to = v0 at *
      go_wp2
      have hsz : (wr.setCell ⟨go, to, none⟩ (.int .i64 0)).heap.size = wr.heap.size := (Upd.setCell wr go to _).size
      have J0 : AsideA (∃ (D : List Int) (seq : List Nat) (k g off cap n : Nat), HpAt w ((wr.setCell ⟨go, to, none⟩ (.int .i64 0)).alloc (.cells #[.int .u8 (to : Int)] 30)) gr go D ∧ QAt ((wr.setCell ⟨go, to, none⟩ (.int .i64 0)).alloc (.cells #[.int .u8 (to : Int)] 30)) w.heap.size g off cap (seq.drop k) ∧ Bfs (Edg cp) to D seq k ∧ n = seq.length - k ∧ k = 0 ∧ g = wr.heap.size ∧ off = 0 ∧ cap = 1 ∧ n = 1) := ⟨_, [to], 0, wr.heap.size, 0, 1, 1, IS.out.later ((Below.refl _ _).alloc (Nat.le_refl _) _), by
        have hb := heap_alloc_new (wr.setCell ⟨go, to, none⟩ (.int .i64 0)) (.cells #[.int .u8 (to : Int)] 30)
        rw [hsz] at hb
        have hs := IS.out.below.size
        rw [hsz] at hs
        exact ⟨hs, by simp, by simp [maxLen], _, hb, by simp, fun j x hj => by rw [List.drop_zero] at hj; cases j with | zero => simp at hj; subst hj; rfl | succ j => simp at hj⟩, HT.out, rfl, rfl, rfl, rfl, rfl, rfl⟩
      clear IS HT c0 f0 hsz
      go_loopg [7] 17 (fun m v wr => ∃ (D : List Int) (seq : List Nat) (k g off cap n : Nat), v = .slice (some ⟨g, off, none⟩) n cap ∧ AsideA (m = 17 - k ∧ HpAt w wr gr go D ∧ QAt wr w.heap.size g off cap (seq.drop k) ∧ Bfs (Edg cp) to D seq k ∧ n = seq.length - k))
      case atStart =>
        obtain ⟨D, seq, k, g, off, cap, n, a1, a2, a3, a4, rfl, rfl, rfl, rfl, rfl⟩ := J0.out
        exact ⟨D, seq, 0, _, 0, 1, 1, rfl, ⟨rfl, a1, a2, a3, a4⟩⟩
      case round =>
        clear J0
        obtain ⟨D, seq, k, g, off, cap, n, rfl, I⟩ := hrel
        by_cases hn : n = 0
        · subst hn
          have hk : k = seq.length := by have := I.out.2.2.2.2; have := I.out.2.2.2.1.kle; omega
          have HH := AsideA.mk (I.out.2.2.2.1.hops hk)
          clear hk
          go_wp2_with (first
            | ((with_reducible refine gate (N := 53) rfl ?_); refine load_at 55 (.tmp 5) rfl rfl go 0 rfl (dV D) _ Try.underlying55 rfl (size55 D HH.out.len) (blk_at0 I.out.2.1.blk) ?_)
            | (go_loud (refine store_at 55 (.tmp 4) (.tmp 53) rfl rfl gr 0 rfl (dV D) rfl _ _ I.out.2.1.res (size55 D HH.out.len) (by rw [dV_size, dV_size, HH.out.len]; decide) (dV_one _) (dV D) (splice_all _ _ (by rw [dV_size, dV_size, HH.out.len]; rfl)) ?_); intro w5 b5 u5; have Z5 := AsideA.mk (And.intro b5 (u5.below I.out.2.1.below I.out.2.1.ger)); clear b5 u5))
          refine bodyPost_ret (v := .agg (dV D)) ?_ rfl ⟨D, rfl, HH.out, Z5.out.2⟩
          exact results_at rfl _ _ gr 55 _ _ rfl Z5.out.1 Try.underlying55 rfl (size55 D HH.out.len)
        · have hk : k < seq.length := by have := I.out.2.2.2.2; omega
          obtain ⟨x, hx⟩ : ∃ x, x = gn seq k := ⟨_, rfl⟩
          have hxr := I.out.2.2.2.1.rng x (by rw [hx]; exact gn_mem hk)
          have hq := I.out.2.2.1
          rw [drop_cons hk, ← hx] at hq
          have ch := hq.head
          have hcap : n ≤ cap := by have := hq.room; rw [List.length_cons, List.length_drop] at this; have := I.out.2.2.2.2; omega
          obtain ⟨off1, hoff⟩ : ∃ off1, off1 = if cap = 1 then off else off + 1 := ⟨_, rfl⟩
          have QT := AsideA.mk hq.tail
          rw [← hoff] at QT
          have he : (if cap = 1 then (some ⟨g, off, none⟩ : Option Addr) else some ⟨g, off + 1, none⟩) = some ⟨g, off1, none⟩ := by rw [hoff]; split <;> rfl
          have hn1 : (1 : Int) ≤ (n : Int) := by omega
          have hn2 : (n : Int) ≤ (cap : Int) := by omega
          have hn0 : 0 < n := by omega
          have HX := AsideA.mk (And.intro hx hk)
          clear hx hq hoff hk
          go_wp2
          clear he ch
          go_loopw [7, 9] (fun v p wz => ∃ (D : List Int) (seq : List Nat) (g off cap n p0 : Nat), 1 ≤ p0 ∧ p0 ≤ 17 ∧ v = .slice (some ⟨g, off, none⟩) n cap ∧ p = .int .u8 (p0 : Int) ∧ AsideA (n = seq.length - (k + 1) ∧ HpAt w wz gr go D ∧ QAt wz w.heap.size g off cap (seq.drop (k + 1)) ∧ Bfs (Edg cp) to D seq k ∧ k < seq.length ∧ gn seq k = x ∧ ∀ p, 1 ≤ p → p < p0 → Edg cp p x → p ∈ seq)) (fun _ p _ => 17 - (intOf p).toNat)
          case atStart => exact ⟨D, seq, g, off1, cap - 1, n - 1, 1, by omega, by omega, rfl, rfl, ⟨by have := I.out.2.2.2.2; omega, I.out.2.1, QT.out, I.out.2.2.2.1, HX.out.2, HX.out.1.symm, fun p _ _ => by omega⟩⟩
          case round =>
            obtain ⟨D2, seq2, g2, off2, cap2, n2, p0, hp1, hp2, rfl, rfl, J⟩ := hrel
            have GK := AsideA.mk (show gk = 17 - k from I.out.1)
            have KK := AsideA.mk (show k ≤ 15 by have := I.out.2.2.2.1.size; have := HX.out.2; omega)
            clear QT I HX hn hn0 hn1 hn2 hcap
            by_cases hlt : p0 < 17
            · have hD := J.out.2.2.2.1.len
              have c0 := (blk_cell J.out.2.1.blk p0).trans (dV_at _ p0 (by omega))
              have f0 := blk_frozen J.out.2.1.blk p0
              have c1 := (blk_cell J.out.2.1.blk x).trans (dV_at _ x (by omega))
              have CC := AsideA.mk (HG.out _ J.out.2.1.below p0 x)
              have p00 : (0 : Int) ≤ (p0 : Int) := by omega
              have p01 : (p0 : Int) < 17 := by omega
              have x0 : (0 : Int) ≤ (x : Int) := by omega
              have x1 : (x : Int) < 17 := by omega
              by_cases h17 : gi D2 p0 = 17
              · have HV := AsideA.mk h17
                rw [h17] at c0
                by_cases hcv : 0 < capF cp p0 x
                · have hix := J.out.2.2.2.1.idx k J.out.2.2.2.2.1
                  rw [J.out.2.2.2.2.2.1] at hix
                  have hkk := J.out.2.2.2.1.size
                  have hkl := J.out.2.2.2.2.1
                  have PU := AsideA.mk (J.out.2.2.2.1.push J.out.2.2.2.2.1 (p := p0) hp1 (by omega) h17 (by rw [J.out.2.2.2.2.2.1]; exact hcv))
                  rw [J.out.2.2.2.2.2.1] at PU
                  have dx0 : 0 ≤ gi D2 x := hix.1
                  have dx1 : gi D2 x ≤ 16 := by omega
                  generalize gi D2 x = dx at *
                  have dcv : decide (0 < capF cp p0 x) = true := decide_eq_true hcv
                  generalize capF cp p0 x = cv at *
                  have hlq : (seq2.drop (k + 1)).length = n2 := by rw [List.length_drop]; exact J.out.1.symm
                  have hn2 : n2 ≤ 16 := by have := J.out.1; omega
                  have WB : AsideA (HpAt w ((wr.setCell ⟨go, p0, none⟩ (.int .i64 (dx + 1))).alloc (.cells #[.int .u8 (p0 : Int)] 30)) gr go (D2.set p0 (dx + 1)) ∧ QAt ((wr.setCell ⟨go, p0, none⟩ (.int .i64 (dx + 1))).alloc (.cells #[.int .u8 (p0 : Int)] 30)) w.heap.size g2 off2 cap2 (seq2.drop (k + 1)) ∧ ((wr.setCell ⟨go, p0, none⟩ (.int .i64 (dx + 1))).alloc (.cells #[.int .u8 (p0 : Int)] 30)).heap[wr.heap.size]? = some (.cells #[.int .u8 (p0 : Int)] 30 (0, 0))) := ⟨by
                    have D3 : Below (wr.setCell ⟨go, p0, none⟩ (.int .i64 (dx + 1))).heap.size (wr.setCell ⟨go, p0, none⟩ (.int .i64 (dx + 1))) ((wr.setCell ⟨go, p0, none⟩ (.int .i64 (dx + 1))).alloc (.cells #[.int .u8 (p0 : Int)] 30)) := (Below.refl _ _).alloc (Nat.le_refl _) _
                    have hb := heap_alloc_new (wr.setCell ⟨go, p0, none⟩ (.int .i64 (dx + 1))) (.cells #[.int .u8 (p0 : Int)] 30)
                    rw [(Upd.setCell wr go p0 _).size] at hb
                    exact ⟨(J.out.2.1.set p0 (dx + 1)).later D3, (J.out.2.2.1.set_other (J.out.2.2.1.ne J.out.2.1.blk (by decide))).below D3, hb⟩⟩
                  have HLQ := AsideA.mk hlq
                  have DA := AsideA.mk (show (seq2 ++ [p0]).drop (k + 1) = seq2.drop (k + 1) ++ [p0] from List.drop_append_of_le_length (by omega))
                  have GX : AsideA ((seq2 ++ [p0]).length = seq2.length + 1 ∧ gn (seq2 ++ [p0]) k = x) := ⟨by simp, by rw [gn_append_left hkl]; exact J.out.2.2.2.2.2.1⟩
                  clear h17 hix hkk hkl hD hlq
                  go_wp2_with (first
                    | (go_at_call 25; refine CC.out.mono ?_; rintro e w' ⟨rfl, rfl⟩)
                    | ((with_reducible refine gate (N := 52) rfl ?_); go_loud (refine q_append (.tmp 49) (.tmp 51) rfl rfl w.heap.size g2 off2 cap2 n2 _ WB.out.2.1 HLQ.out.symm rfl wr.heap.size p0 rfl WB.out.2.2 (by rw [HLQ.out]; omega) WB.out.1.below.size ?_); intro g3 off3 cap3 w3 hq3 hg3; have Z3 := AsideA.mk (And.intro hq3 (WB.out.1.grown hg3 (Ne.symm (WB.out.2.1.ne WB.out.1.blk (by decide))) (Ne.symm (WB.out.2.1.ne WB.out.1.res (by decide))) WB.out.2.1.ge)); clear hq3 hg3))
                  exact ⟨⟨_, seq2 ++ [p0], g3, off3, cap3, n2 + 1, p0 + 1, by omega, by omega, rfl, by go_num, ⟨by rw [GX.out.1]; have := J.out.1; have := J.out.2.2.2.2.1; omega, Z3.out.2, by rw [DA.out]; exact Z3.out.1, PU.out, by rw [GX.out.1]; have := J.out.2.2.2.2.1; omega, GX.out.2, fun p hp hpl hE => by
                    by_cases e : p = p0
                    · subst e; exact List.mem_append.2 (.inr (by simp))
                    · exact List.mem_append.2 (.inl (J.out.2.2.2.2.2.2 p hp (by omega) hE))⟩⟩, by simp [intOf]; omega⟩
                · have dcv : decide (0 < capF cp p0 x) = false := decide_eq_false hcv
                  have HCV : AsideA (¬ Edg cp p0 x) := ⟨hcv⟩
                  generalize capF cp p0 x = cv at *
                  clear h17 hD hcv
                  go_wp2_with (go_at_call 25; refine CC.out.mono ?_; rintro e w' ⟨rfl, rfl⟩)
                  exact ⟨⟨D2, seq2, g2, off2, cap2, n2, p0 + 1, by omega, by omega, rfl, by go_num, ⟨J.out.1, J.out.2.1, J.out.2.2.1, J.out.2.2.2.1, J.out.2.2.2.2.1, J.out.2.2.2.2.2.1, fun p hp hpl hE => by
                    by_cases e : p = p0
                    · subst e; exact absurd hE HCV.out
                    · exact J.out.2.2.2.2.2.2 p hp (by omega) hE⟩⟩, by simp [intOf]; omega⟩
              · have dv : (gi D2 p0 == 17) = false := beq_eq_false_iff_ne.mpr h17
                have HV := AsideA.mk h17
                clear h17 hD
                generalize gi D2 p0 = v0 at c0 dv
                go_wp2
                exact ⟨⟨D2, seq2, g2, off2, cap2, n2, p0 + 1, by omega, by omega, rfl, by go_num, ⟨J.out.1, J.out.2.1, J.out.2.2.1, J.out.2.2.2.1, J.out.2.2.2.2.1, J.out.2.2.2.2.2.1, fun p hp hpl hE => by
                    by_cases e : p = p0
                    · subst e; exact (J.out.2.2.2.1.vis p (by omega)).2 HV.out
                    · exact J.out.2.2.2.2.2.2 p hp (by omega) hE⟩⟩, by simp [intOf]; omega⟩
            · have hp17 : p0 = 17 := by omega
              subst hp17
              go_wp2
              go_roundg (17 - (k + 1))
              case measure => have := KK.out; have := GK.out; omega
              case rel => exact ⟨D2, seq2, k + 1, g2, off2, cap2, n2, rfl, ⟨rfl, J.out.2.1, J.out.2.2.1, J.out.2.2.2.1.next J.out.2.2.2.2.1 (fun p p1 p2 hE => J.out.2.2.2.2.2.2 p p1 (by omega) (by rw [← J.out.2.2.2.2.2.1]; exact hE)), J.out.1⟩⟩
end Go.Proofs.Ytjopmkfpghdlpaa.A

