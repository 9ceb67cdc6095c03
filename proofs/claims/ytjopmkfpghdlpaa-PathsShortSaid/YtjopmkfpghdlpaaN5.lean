/-
  The reference's reach (countinghouseref06.reach).
-/
import Derived.Test.YtjopmkfpghdlpaaN1
import Derived.Test.YtjopmkfpghdlpaaN4
namespace Go.Proofs.Ytjopmkfpghdlpaa.A
set_option linter.unusedVariables false
set_option linter.unusedSimpArgs false
open Go.RowKit

theorem zeroR83 : (Try.prog.info? 83).bind (·.zero) = some (.agg (toldV (List.replicate 17 false))) := by kernel_rfl
theorem toldV_size (l : List Bool) : (toldV l).size = l.length := by simp [toldV]
theorem sizeR83 (l : List Bool) (h : l.length = 17) : (Try.prog.info? 83).map (·.size) = some (toldV l).size := by rw [toldV_size, h]; kernel_rfl
theorem toldV_one (l : List Bool) : ∀ v ∈ (toldV l).toList, v.oneCell' = true := by
  intro v hv
  obtain ⟨b, _, rfl⟩ := List.mem_map.1 (show v ∈ l.map Value.bool by simpa [toldV] using hv)
  rfl
structure RcAt (w wr : World) (gr gn : Nat) (L : List Bool) : Prop where
  res : ∃ cs : List Bool, cs.length = 17 ∧ wr.heap[gr]? = some (.cells (toldV cs) 83 (0, 0))
  blk : wr.heap[gn]? = some (.cells (toldV L) 83 (0, 0))
  ne : gr ≠ gn
  below : Below w.heap.size w wr
  ger : w.heap.size ≤ gr
  gen : w.heap.size ≤ gn
theorem RcAt.later {w wr w1 : World} {gr gn : Nat} {L : List Bool} (h : RcAt w wr gr gn L) (k : Below wr.heap.size wr w1) : RcAt w w1 gr gn L := by
  obtain ⟨cs, h1, h2⟩ := h.res
  exact ⟨⟨cs, h1, blk_below h2 k⟩, blk_below h.blk k, h.ne, below_call h.below k, h.ger, h.gen⟩
theorem RcAt.set {w wr : World} {gr gn : Nat} {L : List Bool} (h : RcAt w wr gr gn L) (i : Nat) (hi : i < L.length) : RcAt w (wr.setCell ⟨gn, i, none⟩ (.bool true)) gr gn (L.set i true) := by
  obtain ⟨cs, h1, h2⟩ := h.res
  exact ⟨⟨cs, h1, blk_set_other h2 _ _ h.ne⟩, by rw [blk_set h.blk, toldV_set _ _ _ hi], h.ne, below_set h.below h.gen, h.ger, h.gen⟩
theorem mark_step (b : List Bool) (es : List Fl) (k : Nat) (x : Fl) (h : es[k]? = some x) : (es.take (k + 1)).foldl (mark1 b) b = if gb b x.f then ((es.take k).foldl (mark1 b) b).set x.t true else (es.take k).foldl (mark1 b) b := by
  rw [List.take_add_one, h, List.foldl_append]
  rfl

set_option maxHeartbeats 16000000 in
set_option maxRecDepth 100000 in
theorem ref_reach (g : Nat) (es : List Fl) (x n : Nat) (w : World) (H : RgAt w g es) (hes : ∀ e ∈ es, e.t < 17 ∧ e.f < 17) (hx : x < 17) (hn : n ≤ 16) : Calls Try.prog 55 #[.pointer (some ⟨g, 0, none⟩), .int .u8 (x : Int), .int .i64 (n : Int)] w fun e w' => e = .returned (.agg (toldV (reachF es x n))) ∧ Below w.heap.size w w' := by
  obtain ⟨Ae, ce, hb, hF⟩ := H.blk
  have HF := AsideA.mk hF
  have HB := AsideA.mk hb
  have HES := AsideA.mk hes
  have hlen := hF.len
  obtain ⟨len, hl⟩ : ∃ len, len = es.length := ⟨_, rfl⟩
  rw [← hl] at hlen HB
  have HL := AsideA.mk hl
  have RL := AsideA.mk (fun k => reach_len es x k)
  have x0 : (0 : Int) ≤ (x : Int) := by omega
  have x1 : (x : Int) < 17 := by omega
  have XL : AsideA (x < (List.replicate 17 false).length) := ⟨by rw [List.length_replicate]; exact hx⟩
  clear H hF hb hl hes
  go_enter Try.func55, Try.ntmps55
  go_wp2_with (first
    | ((with_reducible refine gate (N := 6) rfl ?_); refine alloc_new 83 rfl rfl _ zeroR83 (toldV (List.replicate 17 false)) rfl ?_; intro gr w1 N1)
    | ((with_reducible refine gate (N := 7) rfl ?_); go_loud (refine alloc_new 83 rfl rfl _ zeroR83 (toldV (List.replicate 17 false)) rfl ?_; intro gn w2 N2); go_loud (have I0 : AsideA (RcAt w w2 gr gn (List.replicate 17 false)) := ⟨⟨⟨_, List.length_replicate, blk_below N1.blk N2.below⟩, N2.blk, N2.ne N1.blk, below_new (below_new (Below.refl _ _) N1) N2, N1.ge (Below.refl _ _), N2.ge (below_new (Below.refl _ _) N1)⟩⟩; clear N1 N2; have cx := (blk_cell I0.out.blk x).trans (toldV_at _ x XL.out); have fx := blk_frozen I0.out.blk x; have I1 : AsideA (RcAt w (w2.setCell ⟨gn, x, none⟩ (.bool true)) gr gn (reachF es x 0)) := ⟨I0.out.set x XL.out⟩; clear I0)))
  clear cx fx
  go_loopw [8] (fun i wr => ∃ k : Nat, k ≤ n ∧ i = .int .i64 k ∧ AsideA (RcAt w wr gr gn (reachF es x k))) (fun i _ => n - (intOf i).toNat)
  case atStart => exact ⟨0, by omega, rfl, I1⟩
  case round =>
    clear I1
    obtain ⟨k, hk, rfl, I⟩ := hrel
    by_cases hlt : k < n
    · obtain ⟨B, hB⟩ : ∃ B, B = reachF es x k := ⟨_, rfl⟩
      have BL : AsideA (B.length = 17) := ⟨by rw [hB]; exact RL.out k⟩
      have BS := AsideA.mk (show markF es B = reachF es x (k + 1) by rw [hB]; rfl)
      rw [← hB] at I
      clear hB
      go_wp2_with (first
        | ((with_reducible refine gate (N := 18) rfl ?_); refine load_at 83 (.tmp 7) rfl rfl gn 0 rfl (toldV B) _ Try.underlying83 rfl (sizeR83 B BL.out) (blk_at0 I.out.blk) ?_)
        | ((with_reducible refine gate (N := 9) rfl ?_); refine alloc_new 83 rfl rfl _ zeroR83 (toldV (List.replicate 17 false)) rfl ?_; intro ge w4 N4)
        | (refine store_at 83 (.tmp 9) (.tmp 18) rfl rfl ge 0 rfl (toldV B) rfl _ _ N4.blk (sizeR83 B BL.out) (by rw [toldV_size, toldV_size, BL.out]; decide) (toldV_one _) (toldV B) (splice_all _ _ (by rw [toldV_size, toldV_size, BL.out]; rfl)) ?_; intro w5 b5 u5; have Z5 : AsideA (w5.heap[ge]? = some (.cells (toldV B) 83 (0, 0)) ∧ RcAt w w5 gr gn ((es.take 0).foldl (mark1 B) B) ∧ ge ≠ gn) := ⟨b5, I.out.later (u5.below N4.below (Nat.le_of_eq N4.at_.symm)), (N4.ne I.out.blk).symm⟩; clear b5 u5 N4))
      go_loopw [10] (fun i wz => ∃ j : Nat, j ≤ len ∧ i = .int .i64 j ∧ AsideA (wz.heap[ge]? = some (.cells (toldV B) 83 (0, 0)) ∧ RcAt w wz gr gn ((es.take j).foldl (mark1 B) B) ∧ ge ≠ gn)) (fun i _ => len - (intOf i).toNat)
      case atStart => exact ⟨0, by omega, rfl, Z5⟩
      case round =>
        clear Z5 I
        obtain ⟨j, hj, rfl, I⟩ := hrel
        have c0 : wr.cell? ⟨g, 0, none⟩ = some (.slice Ae len ce) := (blk_cell (blk_below HB.out I.out.2.1.below) 0).trans rfl
        by_cases hjl : j < len
        · obtain ⟨gf, off, ⟨f, t, m⟩, rfl, hek, hwf, hc⟩ := (HF.out.below I.out.2.1.below).get j (by have := HL.out; omega)
          have e0 : wr.cell? ⟨gf, off + j * 3, none⟩ = some (.int .u8 (f : Int)) := hc 0 (Nat.succ_pos 2)
          have e1 : wr.cell? ⟨gf, off + j * 3 + 1, none⟩ = some (.int .u8 (t : Int)) := hc 1 (Nat.succ_lt_succ (Nat.succ_pos 1))
          have hft : t < 17 ∧ f < 17 := HES.out _ (List.mem_of_getElem? hek)
          have ML : AsideA (((es.take j).foldl (mark1 B) B).length = 17) := ⟨by rw [mark_len, BL.out]⟩
          have cf := (blk_cell I.out.1 f).trans (toldV_at B f (by have := BL.out; omega))
          have MS := AsideA.mk (mark_step B es j _ hek)
          have ct := (blk_cell I.out.2.1.blk t).trans (toldV_at _ t (by have := ML.out; omega))
          have ff := blk_frozen I.out.2.1.blk t
          have f0 : (0 : Int) ≤ (f : Int) := by omega
          have f1 : (f : Int) < 17 := by omega
          have t0 : (0 : Int) ≤ (t : Int) := by omega
          have t1 : (t : Int) < 17 := by omega
          clear hek hwf hc
          generalize gb ((es.take j).foldl (mark1 B) B) t = bt at ct
          cases hbf : gb B f with
          | true =>
            rw [hbf] at cf
            have SS : AsideA ((wr.setCell ⟨gn, t, none⟩ (.bool true)).heap[ge]? = some (.cells (toldV B) 83 (0, 0)) ∧ RcAt w (wr.setCell ⟨gn, t, none⟩ (.bool true)) gr gn ((es.take (j + 1)).foldl (mark1 B) B) ∧ ge ≠ gn) := ⟨blk_set_other I.out.1 _ _ I.out.2.2, by rw [MS.out, if_pos hbf]; exact I.out.2.1.set t (by rw [ML.out]; omega), I.out.2.2⟩
            clear hbf hft
            go_wp2
            exact ⟨⟨j + 1, by omega, by go_num, SS⟩, by simp [intOf]; omega⟩
          | false =>
            rw [hbf] at cf
            have SS : AsideA (wr.heap[ge]? = some (.cells (toldV B) 83 (0, 0)) ∧ RcAt w wr gr gn ((es.take (j + 1)).foldl (mark1 B) B) ∧ ge ≠ gn) := ⟨I.out.1, by rw [MS.out, if_neg (by rw [hbf]; exact Bool.false_ne_true)]; exact I.out.2.1, I.out.2.2⟩
            clear hbf hft
            go_wp2
            exact ⟨⟨j + 1, by omega, by go_num, SS⟩, by simp [intOf]; omega⟩
        · have E : AsideA (RcAt w wr gr gn (reachF es x (k + 1))) := ⟨by
            have h := I.out.2.1
            rw [List.take_of_length_le (by have := HL.out; omega)] at h
            rw [← BS.out]
            exact h⟩
          go_wp2
          exact ⟨⟨k + 1, by omega, by go_num, E⟩, by simp [intOf]; omega⟩
    · have hkn : k = n := by omega
      subst hkn
      obtain ⟨cs, hcs, hres⟩ := I.out.res
      have HR := AsideA.mk (And.intro hcs hres)
      clear hcs hres hlt
      go_wp2_with (first
        | ((with_reducible refine gate (N := 47) rfl ?_); refine load_at 83 (.tmp 7) rfl rfl gn 0 rfl (toldV (reachF es x k)) _ Try.underlying83 rfl (sizeR83 _ (RL.out k)) (blk_at0 I.out.blk) ?_)
        | (go_loud (refine store_at 83 (.tmp 6) (.tmp 47) rfl rfl gr 0 rfl (toldV (reachF es x k)) rfl _ _ HR.out.2 (sizeR83 _ (RL.out k)) (by rw [toldV_size, toldV_size, RL.out, HR.out.1]; decide) (toldV_one _) (toldV (reachF es x k)) (splice_all _ _ (by rw [toldV_size, toldV_size, RL.out, HR.out.1])) ?_); intro w5 b5 u5; have Z5 := AsideA.mk (And.intro b5 (u5.below I.out.below I.out.ger)); clear b5 u5))
      refine bodyPost_ret (v := .agg (toldV (reachF es x k))) ?_ rfl ⟨rfl, Z5.out.2⟩
      exact results_at rfl _ _ gr 83 _ _ rfl Z5.out.1 Try.underlying83 rfl (sizeR83 _ (RL.out k))
end Go.Proofs.Ytjopmkfpghdlpaa.A

