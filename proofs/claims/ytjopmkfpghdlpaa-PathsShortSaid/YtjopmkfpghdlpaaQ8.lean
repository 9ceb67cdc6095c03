/-
  paths.Round, where a round is found; both together.
-/
import Derived.Test.YtjopmkfpghdlpaaQ7
import Derived.Deep.RegionWith
namespace Go.Proofs.Ytjopmkfpghdlpaa.A
set_option linter.unusedVariables false
set_option linter.unusedSimpArgs false
open Go.RowKit

theorem itr_a_le {es : List Ed} (hok : ∀ x ∈ es, x.ok) (n v : Nat) : gn (itr es n).a v ≤ 16 := by
  have I := gitr_inv es hok n
  rw [← gitr_s]
  by_cases h : gn (gitr es n).s.a v = 0
  · omega
  · obtain ⟨e, he, h1, _⟩ := I.inv.edge v h
    have := hok e he
    unfold Ed.ok at this
    omega
theorem itr_l_le {es : List Ed} (hok : ∀ x ∈ es, x.ok) (n : Nat) : (itr es n).l ≤ 16 := by
  induction n with
  | zero => exact Nat.zero_le _
  | succ n ih =>
    have gen : ∀ (l : List Ed) (s : St), (∀ x ∈ l, x.ok) → s.l ≤ 16 → (l.foldl relax s).l ≤ 16 := by
      intro l
      induction l with
      | nil => intro s _ h; exact h
      | cons e l ih2 =>
        intro s hx h
        refine ih2 _ (fun x hxm => hx x (List.mem_cons_of_mem _ hxm)) ?_
        unfold relax
        split
        · have := hx e List.mem_cons_self
          unfold Ed.ok at this
          exact this.2.2.2
        · exact h
    exact gen es _ hok (Nat.zero_le _)
theorem iter_le {f : Nat → Nat} {x : Nat} (hf : ∀ v, f v ≤ 16) (hx : x ≤ 16) : ∀ k, iter f k x ≤ 16
  | 0 => hx
  | k + 1 => hf _

theorem own_ne {w : World} {base n size g : Nat} {e t : TypeId} {v : Value} {xs : List Value} {cs : Array Value} (h : w.ownsRow base e size v n xs) (hg : w.heap[g]? = some (.cells cs t (0, 0))) (hne : e ≠ t) : some g ≠ v.ownBlock := by
  rcases h.2 with ⟨rfl, _⟩ | ⟨g', cap, cur, rfl, _, hh, _⟩
  · simp [Value.ownBlock]
  · intro he
    have : g' = g := by simpa [Value.ownBlock] using he.symm
    subst this
    rw [hh] at hg
    injection hg with hg
    injection hg with _ ht
    exact hne ht
theorem below_setb {w W : World} {base g j : Nat} {v : Value} (h : Below base w W) (hg : base ≤ g) : Below base w (W.setCell ⟨g, j, none⟩ v) := h.setCell hg _
theorem own_set {w : World} {base n size g j : Nat} {e : TypeId} {v u : Value} {xs : List Value} (h : w.ownsRow base e size v n xs) (hne : some g ≠ v.ownBlock) : (w.setCell ⟨g, j, none⟩ u).ownsRow base e size v n xs := by
  refine ⟨h.1, ?_⟩
  rcases h.2 with h0 | ⟨g', cap, cur, rfl, h1, h2, h3⟩
  · exact .inl h0
  · refine .inr ⟨g', cap, cur, rfl, h1, blk_set_other h2 j u (fun e => hne (by rw [e]; rfl)), h3⟩


/-- which have come -/
theorem came_at (l : List Nat) (i : Nat) (h : i < 17) : (cameV l)[i]? = some (.bool (decide (i ∈ l))) := by
  unfold cameV
  rw [List.getElem?_toArray, List.getElem?_map, List.getElem?_range h]
  rfl
theorem came_set (l : List Nat) (x : Nat) (h : x < 17) : (cameV l).setIfInBounds x (.bool true) = cameV (l ++ [x]) := by
  unfold cameV
  rw [List.setIfInBounds_toArray]
  congr 1
  apply List.ext_getElem?
  intro i
  rw [List.getElem?_set]
  by_cases hi : i < 17
  · simp only [List.getElem?_map, List.getElem?_range hi, Option.map_some, List.length_map, List.length_range, List.mem_append, List.mem_singleton]
    by_cases e : x = i
    · subst e; simp [hi]
    · rw [if_neg e]
      simp [Ne.symm e]
  · simp only [List.length_map, List.length_range]
    rw [if_neg (by omega)]
    simp [show ¬ i < 17 from hi]
def lenS : Value → Nat
  | .slice _ n _ => n
  | _ => 0
structure CmAt (w wr : World) (gs gc : Nat) (st : St) (cy : List Nat) (v : Value) (k : Nat) : Prop where
  sb : wr.heap[gs]? = some (.cells (srch st) 81 (0, 0))
  cb : wr.heap[gc]? = some (.cells (cameV cy) 83 (0, 0))
  own : wr.ownsRow w.heap.size 30 1 v k (enc8 cy)
  below : Below w.heap.size w wr
  gec : w.heap.size ≤ gc
theorem CmAt.step {w wr w2 : World} {gs gc k x : Nat} {st : St} {cy : List Nat} {v v2 : Value} {o : Obj} (h : CmAt w wr gs gc st cy v k) (hx : x < 17) (o2 : w2.ownsRow w.heap.size 30 1 v2 (k + 1) (enc8 cy ++ [.int .u8 (x : Int)])) (g2 : ((wr.setCell ⟨gc, x, none⟩ (.bool true)).alloc o).grownBy w2 v.ownBlock) : CmAt w w2 gs gc st (cy ++ [x]) v2 (k + 1) := by
  have ngc : some gc ≠ v.ownBlock := own_ne h.own h.cb (by decide)
  have ngs : some gs ≠ v.ownBlock := own_ne h.own h.sb (by decide)
  have hne : gs ≠ gc := by
    rintro rfl
    have h1 := h.sb
    rw [h.cb] at h1
    injection h1 with h1
    injection h1 with _ h1
    exact absurd h1 (by decide)
  have D : Below (wr.setCell ⟨gc, x, none⟩ (.bool true)).heap.size (wr.setCell ⟨gc, x, none⟩ (.bool true)) ((wr.setCell ⟨gc, x, none⟩ (.bool true)).alloc o) := (Below.refl _ _).alloc (Nat.le_refl _) _
  have b1 : ((wr.setCell ⟨gc, x, none⟩ (.bool true)).alloc o).heap[gs]? = some (.cells (srch st) 81 (0, 0)) := blk_below (blk_set_other h.sb x _ hne) D
  have b2 : ((wr.setCell ⟨gc, x, none⟩ (.bool true)).alloc o).heap[gc]? = some (.cells (cameV (cy ++ [x])) 83 (0, 0)) := blk_below (by rw [blk_set h.cb, came_set _ _ hx]) D
  have hs := h.below.size
  refine ⟨(g2.block gs (blk_lt b1) ngs).trans b1, (g2.block gc (blk_lt b2) ngc).trans b2, ?_, ?_, h.gec⟩
  · rw [enc8_append]
    exact o2
  · have hsz : w.heap.size ≤ (wr.setCell ⟨gc, x, none⟩ (.bool true)).heap.size := by rw [(Upd.setCell wr gc x _).size]; exact hs
    have e1 : Below w.heap.size w ((wr.setCell ⟨gc, x, none⟩ (.bool true)).alloc o) := (below_set h.below h.gec).alloc hsz _
    exact below_grown e1 (by rw [World.size_alloc]; omega) (own_alloc (own_set h.own ngc) o) g2

set_option maxHeartbeats 8000000 in
set_option maxRecDepth 100000 in
theorem round_some (A : Option Addr) (c : Nat) (es : List Ed) (w : World) (E : Edges w A es) (hl0 : (itr (es.filter okb) 16).l ≠ 0) : Calls Try.prog 15 #[.slice A es.length c] w fun e w' => ∃ B n cap, e = .returned (.slice B n cap) ∧ PRet w w' B n cap (roundF (es.filter okb)) := by
  have CC := AsideA.mk (xclone A c es w E)
  have CD := AsideA.mk (fun (w1 : World) (A1 : Option Addr) (c1 : Nat) (O : w1.ownsRow w.heap.size 35 3 (.slice A1 es.length c1) es.length (encE es)) (hb : Below w.heap.size w w1) => xdel_own w w1 A1 c1 es O hb E.wf E.len)
  have hfl : ((es.filter okb).length : Int) ≤ 1099511627776 := by have := List.length_filter_le okb es; have := E.len; omega
  have HF := AsideA.mk (And.intro hl0 hfl)
  have HO : AsideA (∀ e ∈ es.filter okb, e.ok) := ⟨fun e he => (okb_iff e).1 (List.mem_filter.1 he).2⟩
  have HW : AsideA (∀ e ∈ es.filter okb, e.wf) := ⟨fun e he => E.wf e (List.mem_filter.1 he).1⟩
  generalize es.filter okb = fine at *
  clear E hl0 hfl
  generalize es.length = len at *
  obtain ⟨nf, hnf⟩ : ∃ nf, nf = fine.length := ⟨_, rfl⟩
  rw [← hnf] at CD
  have HN := AsideA.mk hnf
  clear hnf
  go_enter Try.func15, Try.ntmps15
  go_wp2_with fail
  go_step3
  go_wp2_with fail
  refine CC.out.mono ?_
  rintro e w1 ⟨A1, c1, rfl, ho, hb⟩
  have O := AsideA.mk (And.intro ho hb)
  clear ho hb CC
  go_wp2_with fail
  refine (CD.out _ _ _ O.out.1 O.out.2).mono ?_
  rintro e w2 ⟨A3, c3, rfl, he, hb, ha⟩
  have D := AsideA.mk (And.intro hb (And.intro he ha))
  clear he hb ha CD O
  go_wp2_with ((with_reducible refine gate (N := 4) rfl ?_); refine alloc_new 81 rfl rfl _ zero81 _ rfl ?_; intro gs w3 N3; have R0 := AsideA.mk (RdAt.start (fine := fine) D.out.1 D.out.2.1 D.out.2.2 N3 rfl); clear N3)
  go_step3
  go_wp2
  have HS := AsideA.mk (fun (n : Nat) (h1 : 1 ≤ n) (h16 : n ≤ 16) (h : (itr fine n).l = 0) => (itr_still_l (es := fine) (fun e he => by have := HO.out e he; unfold Ed.ok at this; omega) h1 h16 h))
  have HB := AsideA.mk (fun (n : Nat) (hn : n ≤ 16) (wz : World) (R : RdAt w wz gs A3 fine (itr fine n)) => xonce gs A3 c3 fine (itr fine n) wz R.blk R.ed R.ne HO.out (itr_len fine n).1 (itr_len fine n).2 (128 * fine.length * n) (Int.mul_nonneg (by omega) (by omega)) (by
    have h1 := HF.out.2
    have h2 : (128 * fine.length * n : Int) ≤ 128 * fine.length * 16 := Int.mul_le_mul_of_nonneg_left (by omega) (by omega)
    omega) (itr_bd fine (fun e he => by have := HW.out e he; unfold Ed.wf at this; omega) n))
  rw [← HN.out] at HB
  go_loopw [5, 12] (fun v i wr => ∃ k : Nat, k ≤ 16 ∧ i = .int .i64 k ∧ v = .int .u8 ((itr fine k).l : Int) ∧ AsideA (RdAt w wr gs A3 fine (itr fine k))) (fun _ i _ => 16 - (intOf i).toNat)
  case atStart => exact ⟨0, by omega, rfl, rfl, R0⟩
  case round =>
    obtain ⟨k, hk, rfl, rfl, I⟩ := hrel
    clear R0
    by_cases hlt : k < 16
    · have CK := AsideA.mk (HB.out k hk _ I.out)
      go_wp2_with fail
      refine CK.out.mono ?_
      rintro e w4 ⟨rfl, h4⟩
      have I4 := AsideA.mk (I.out.once h4)
      have e1 : itr fine (k + 1) = once fine (itr fine k) := rfl
      rw [← e1] at I4 ⊢
      clear h4 CK e1
      have hz : (itr fine (k + 1)).l ≠ 0 := fun h0 => HF.out.1 (HS.out (k + 1) (by omega) (by omega) h0)
      have dz : (((itr fine (k + 1)).l : Int) == 0) = false := beq_eq_false_iff_ne.mpr (by omega)
      clear hz
      go_wp2
      exact ⟨⟨k + 1, by omega, by go_num, rfl, I4⟩, by simp [intOf]; omega⟩
    · have hk16 : k = 16 := by omega
      subst hk16
      have IA := AsideA.mk (itr_a_le HO.out 16)
      have LL := AsideA.mk (itr_l_le HO.out 16)
      have ILN := AsideA.mk (itr_len fine 16)
      obtain ⟨L, m, wt, hp, hm, hlm, hf1, hf2, hR⟩ := round_is HO.out HF.out.1
      have RP := AsideA.mk (And.intro hp (And.intro hm (And.intro hlm (And.intro hf1 (And.intro hf2 hR)))))
      have dl : (((itr fine 16).l : Int) == 0) = false := beq_eq_false_iff_ne.mpr (by have := HF.out.1; omega)
      generalize hst : itr fine 16 = st at *
      have HST := AsideA.mk hst
      clear hp hm hlm hf1 hf2 hR HB HS hst
      go_wp2
      go_loopw [5, 21] (fun v i wr => ∃ k : Nat, k ≤ 16 ∧ i = .int .i64 k ∧ v = .int .u8 (iter (gn st.a) k st.l : Int) ∧ AsideA (RdAt w wr gs A3 fine st)) (fun _ i _ => 16 - (intOf i).toNat)
      case atStart => exact ⟨0, by omega, rfl, rfl, I⟩
      case round =>
        clear I
        obtain ⟨k, hk, rfl, rfl, I⟩ := hrel
        by_cases hlt : k < 16
        · have hx := iter_le IA.out LL.out k
          have hs : iter (gn st.a) (k + 1) st.l = gn st.a (iter (gn st.a) k st.l) := rfl
          have c1 := (blk_cell I.out.blk (17 + iter (gn st.a) k st.l)).trans (srch_a st _ ILN.out.1 ILN.out.2 (by omega))
          rw [← hs] at c1
          clear hs
          generalize hy : iter (gn st.a) (k + 1) st.l = y at *
          generalize iter (gn st.a) k st.l = x at *
          have HY := AsideA.mk hy
          have hx0 : (0 : Int) ≤ (x : Int) := by omega
          have hx1 : (x : Int) < 17 := by omega
          clear hy
          go_wp2
          exact ⟨⟨k + 1, by omega, by go_num, by rw [HY.out], I⟩, by simp [intOf]; omega⟩
        · have hk16 : k = 16 := by omega
          subst hk16
          generalize hz : iter (gn st.a) 16 st.l = z at *
          generalize hf : gn st.a = f at *
          have HF2 := AsideA.mk (And.intro hz hf)
          clear hz hf
          go_wp2_with ((with_reducible refine gate (N := 6) rfl ?_); refine alloc_new 83 rfl rfl _ zero83 _ rfl ?_; intro gc w5 N5; have C0 : AsideA (CmAt w w5 gs gc st (cyc f z 0) (.slice none 0 0) 0) := ⟨⟨blk_below I.out.blk N5.below, N5.blk, own_nil _ _ _ _, below_new I.out.below N5, N5.ge I.out.below⟩⟩; clear N5)
          clear I
          go_loopw [5, 7] (fun v o wr => ∃ (k : Nat) (A : Option Addr) (c : Nat), k ≤ L ∧ v = .int .u8 (iter f k z : Int) ∧ o = .slice A k c ∧ AsideA (CmAt w wr gs gc st (cyc f z k) o k)) (fun _ o _ => L - lenS o)
          case atStart => exact ⟨0, none, 0, by omega, rfl, rfl, C0⟩
          case round =>
            clear C0
            obtain ⟨k, A7, c7, hk, rfl, rfl, I⟩ := hrel
            have hx := iter_le IA.out (x := z) (by rw [← HF2.out.1]; exact iter_le IA.out LL.out 16) k
            obtain ⟨x, hxe⟩ : ∃ x, x = iter f k z := ⟨_, rfl⟩
            rw [← hxe] at hx ⊢
            have c0 := (blk_cell I.out.cb x).trans (came_at _ _ (by omega))
            have f0 := blk_frozen I.out.cb x
            have HX := AsideA.mk hxe
            have hx0 : (0 : Int) ≤ (x : Int) := by omega
            have hx1 : (x : Int) < 17 := by omega
            clear hxe
            by_cases hlt : k < L
            · have hn : x ∉ cyc f z k := fun hm => by
                obtain ⟨i, hi, he⟩ := mem_cyc.1 hm
                have := RP.out.1.inj i (by omega) k hlt (by rw [he, HX.out])
                omega
              rw [decide_eq_false hn] at c0
              clear hn
              have cy := cyc_succ f z k
              rw [← HX.out] at cy
              have HC := AsideA.mk cy
              clear cy
              have HRB : AsideA (Reads ((wr.setCell ⟨gc, x, none⟩ (.bool true)).alloc (.cells #[.int .u8 (x : Int)] 30)) (some ⟨wr.heap.size, 0, none⟩) [.int .u8 (x : Int)]) := ⟨by
                have h := reads_built (wr.setCell ⟨gc, x, none⟩ (.bool true)) 30 [.int .u8 (x : Int)]
                rwa [(Upd.setCell wr gc x _).size] at h⟩
              have hsz : w.heap.size ≤ ((wr.setCell ⟨gc, x, none⟩ (.bool true)).alloc (.cells #[.int .u8 (x : Int)] 30)).heap.size := by
                rw [World.size_alloc, (Upd.setCell wr gc x _).size]
                have := I.out.below.size
                omega
              have HSZ := AsideA.mk hsz
              have HA9 : AsideA (∀ i, i ≤ 16 → (srch st)[17 + i]? = some (.int .u8 (f i : Int))) := ⟨fun i hi => by rw [← HF2.out.2]; exact srch_a st i ILN.out.1 ILN.out.2 (by omega)⟩
              have hk17 : k ≤ 17 := by have := RP.out.2.2.2.2.2.top; rw [RP.out.2.2.2.2.1, ringF_len] at this; omega
              clear hsz
              go_wp2_with ((with_reducible refine gate (N := 41) rfl ?_); go_loud (refine append_own _ 36 _ _ rfl rfl w.heap.size 30 _ 1 1 Try.underlying36 info30 rfl (by decide) (.slice A7 k c7) k (enc8 (cyc f z k)) rfl (own_alloc (own_set I.out.own (own_ne I.out.own I.out.cb (by decide))) _) (some ⟨wr.heap.size, 0, none⟩) 1 1 [.int .u8 (x : Int)] rfl rfl HRB.out (by simp [Value.oneCell']) (by simp only [maxLen]; omega) (by omega) HSZ.out ?_); intro v2 w6 o2 g2 p2; obtain ⟨A8, c8, e8⟩ := own_form o2; subst e8; have Z := AsideA.mk (I.out.step (by omega) o2 g2); have c9 := (blk_cell Z.out.sb (17 + x)).trans (HA9.out x hx); clear o2 g2 p2)
              exact ⟨⟨k + 1, A8, c8, by omega, by rw [iter, HX.out], rfl, by rw [HC.out]; exact Z⟩, by simp [lenS]; omega⟩
            · have hkL : k = L := by omega
              subst hkL
              have hm : x ∈ cyc f z k := by rw [HX.out, RP.out.1.back]; exact mem_cyc.2 ⟨0, RP.out.1.pos, rfl⟩
              rw [decide_eq_true hm] at c0
              have hL1 : 1 ≤ k := RP.out.1.pos
              have hL16 : k ≤ 16 := by have := RP.out.2.2.2.2.2.top; rwa [RP.out.2.2.2.2.1, ringF_len] at this
              clear hm
              -- the row, as a block
              obtain ⟨g7, tl7, eA7, hP7, hcap7, hge7⟩ : ∃ g7 tl7, A7 = some ⟨g7, 0, none⟩ ∧ PBlk wr g7 (cyc f z k) tl7 ∧ k ≤ c7 ∧ w.heap.size ≤ g7 := by
                rcases I.out.own.2 with ⟨h1, h2⟩ | ⟨g, cap, cur, h1, h2, h3, h4, h5, h6, h7⟩
                · omega
                · simp only [Value.slice.injEq] at h1
                  obtain ⟨e1, _, e3⟩ := h1
                  refine ⟨g, cur.toList.drop (k * 1), e1, ?_, by omega, h2⟩
                  unfold PBlk
                  rw [← h7, List.take_append_drop]
                  exact h3
              subst eA7
              have P7 := AsideA.mk (And.intro hP7 hge7)
              clear hP7 hge7
              have hsm : ∀ b ∈ (cyc f z k).reverse, b < 256 := by
                intro b hb
                obtain ⟨i, hi, rfl⟩ := mem_cyc.1 (List.mem_reverse.1 hb)
                have := iter_le IA.out (x := z) (by rw [← HF2.out.1]; exact iter_le IA.out LL.out 16) i
                omega
              have hrl : (cyc f z k).reverse.length = k := by rw [List.length_reverse, cyc_len]
              have hrn : (cyc f z k).reverse ≠ [] := fun e => by rw [e] at hrl; simp at hrl; omega
              have CR : AsideA (Calls Try.prog 44 #[.slice (some ⟨g7, 0, none⟩) k c7] wr fun e w' => e = .returned (.tuple #[]) ∧ PBlk w' g7 (cyc f z k).reverse tl7 ∧ wr.grownBy w' (some g7)) := ⟨by
                have h := xreverse g7 c7 (cyc f z k) tl7 wr P7.out.1 (by rw [cyc_len]; omega) (by rw [cyc_len]; exact hcap7)
                rwa [cyc_len] at h⟩
              have hfin : roundF fine = turned (cyc f z k).reverse := RP.out.2.2.2.1
              have HFIN := AsideA.mk hfin
              generalize hrv : (cyc f z k).reverse = rv at *
              have HSM := AsideA.mk hsm
              have HRL := AsideA.mk hrl
              have HRN := AsideA.mk hrn
              have BMK := AsideA.mk (fun (wz : World) (h : PBlk wz g7 rv tl7) => Bytes.of_block h hsm (by rw [hrl]; omega))
              have CM := AsideA.mk (fun (wz : World) (h : PBlk wz g7 rv tl7) => xmin (some ⟨g7, 0, none⟩) c7 rv wz (BMK.out wz h) hrn)
              have CX := AsideA.mk (fun (wz : World) (h : PBlk wz g7 rv tl7) => xidx (some ⟨g7, 0, none⟩) c7 rv (leastOf rv) wz (BMK.out wz h) (leastOf_spec hrn).1)
              rw [hrl] at CM CX
              have HQ := (idxOf_gn (leastOf_spec hrn).1).1
              rw [hrl] at HQ
              have HT := AsideA.mk (show turned rv = rv.drop (rv.idxOf (leastOf rv)) ++ rv.take (rv.idxOf (leastOf rv)) from rfl)
              generalize hq : rv.idxOf (leastOf rv) = q at *
              have hqc : (q : Int) ≤ (c7 : Int) := by omega
              have hqk : (q : Int) ≤ (k : Int) := by omega
              have hq0 : (0 : Int) ≤ (q : Int) := by omega
              clear hsm hrl hrn hrv hfin hq
              go_wp2_with fail
              refine CR.out.mono ?_
              rintro e w8 ⟨rfl, hp, hg⟩
              have P8 := AsideA.mk (And.intro hp (below_grownBy I.out.below I.out.below.size hg P7.out.2))
              clear hp hg
              go_wp2_with fail
              refine (CM.out _ P8.out.1).mono ?_
              rintro e w9 ⟨rfl, hb⟩
              have P9 := AsideA.mk (And.intro (P8.out.1.below hb) (below_call P8.out.2 hb))
              clear hb
              go_wp2_with fail
              refine (CX.out _ P9.out.1).mono ?_
              rintro e w10 ⟨rfl, hb⟩
              have P10 := AsideA.mk (And.intro (P9.out.1.below hb) (below_call P9.out.2 hb))
              clear hb CM CX CR
              go_wp2_with fail
              have hall : all [⟨some ⟨g7, q, none⟩, c7 - q, rv.drop q⟩, ⟨some ⟨g7, 0, none⟩, c7, rv.take q⟩] = turned rv := by rw [HT.out]; simp [all]
              have htl : (turned rv).length = k := by rw [turned_len, HRL.out]
              have hdl : (rv.drop q).length = k - q := by rw [List.length_drop, HRL.out]
              have htk : (rv.take q).length = q := by rw [List.length_take, HRL.out]; omega
              have CCC : AsideA (∀ (wz : World) (h : PBlk wz g7 rv tl7), Calls Try.prog 47 #[.slice (some ⟨wz.heap.size, 0, none⟩) 2 2] (wz.alloc (.cells #[.slice (some ⟨g7, q, none⟩) (k - q) (c7 - q), .slice (some ⟨g7, 0, none⟩) q c7] 36)).drew fun e w' => ∃ g cap, e = .returned (.slice (some ⟨g, 0, none⟩) k cap) ∧ Fill (wz.alloc (.cells #[.slice (some ⟨g7, q, none⟩) (k - q) (c7 - q), .slice (some ⟨g7, 0, none⟩) q c7] 36)).drew w' g cap (turned rv)) := ⟨fun wz h => by
                have D : Below wz.heap.size wz (wz.alloc (.cells #[.slice (some ⟨g7, q, none⟩) (k - q) (c7 - q), .slice (some ⟨g7, 0, none⟩) q c7] 36)).drew := ((Below.refl _ _).alloc (Nat.le_refl _) _).drew
                have hp := h.below D
                have R : Reads (wz.alloc (.cells #[.slice (some ⟨g7, q, none⟩) (k - q) (c7 - q), .slice (some ⟨g7, 0, none⟩) q c7] 36)).drew (some ⟨wz.heap.size, 0, none⟩) (encS [⟨some ⟨g7, q, none⟩, c7 - q, rv.drop q⟩, ⟨some ⟨g7, 0, none⟩, c7, rv.take q⟩]) := by
                  unfold encS
                  simp only [List.map_cons, List.map_nil, hdl, htk]
                  exact Reads.of_block (show _ = _ from heap_alloc_new wz _) _ (fun j u hj => by rw [Nat.zero_add, ← hj]; simp)
                have B1 : Bytes (wz.alloc (.cells #[.slice (some ⟨g7, q, none⟩) (k - q) (c7 - q), .slice (some ⟨g7, 0, none⟩) q c7] 36)).drew (some ⟨g7, q, none⟩) (rv.drop q) := ⟨Reads.of_block hp _ (fun j u hj => by
                  rw [List.getElem?_toArray, List.getElem?_append_left (by rw [enc8_len, HRL.out]; have := (List.getElem?_eq_some_iff.1 hj).1; rw [enc8_len, hdl] at this; omega), ← hj]
                  unfold enc8
                  rw [List.map_drop, List.getElem?_drop]), fun b hb => HSM.out b (List.mem_of_mem_drop hb), by rw [hdl]; omega⟩
                have B2 : Bytes (wz.alloc (.cells #[.slice (some ⟨g7, q, none⟩) (k - q) (c7 - q), .slice (some ⟨g7, 0, none⟩) q c7] 36)).drew (some ⟨g7, 0, none⟩) (rv.take q) := ⟨Reads.of_block hp _ (fun j u hj => by
                  have hjq := (List.getElem?_eq_some_iff.1 hj).1
                  rw [enc8_len, htk] at hjq
                  rw [Nat.zero_add, List.getElem?_toArray, List.getElem?_append_left (by rw [enc8_len, HRL.out]; omega), ← hj]
                  unfold enc8
                  rw [List.map_take, List.getElem?_take, if_pos hjq]), fun b hb => HSM.out b (List.mem_of_mem_take hb), by rw [htk]; omega⟩
                have hx := xconcat [⟨some ⟨g7, q, none⟩, c7 - q, rv.drop q⟩, ⟨some ⟨g7, 0, none⟩, c7, rv.take q⟩] wz.heap.size 0 2 _ R (by
                  intro p hp
                  simp only [List.mem_cons, List.not_mem_nil, or_false] at hp
                  rcases hp with rfl | rfl
                  · exact B1
                  · exact B2) (by rw [hall, htl]; omega) (by rw [hall, htl]; omega) (by simp)
                rw [hall, htl] at hx
                exact hx⟩
              have HTL := AsideA.mk htl
              clear hall htl hdl htk
              have hcq : ¬ (c7 = q) := by omega
              go_region_with (go_at_call 47; refine (CCC.out _ P10.out.1).mono ?_; rintro e w11 ⟨g11, cap11, rfl, F⟩; have FF := AsideA.mk (F.start (((below_call P10.out.2 (Below.refl _ _)).alloc P10.out.2.size _).drew)); clear F)
              all_goals
                go_wp2
                rw [Exit.noGoto_ret]
                go_ret
                refine ⟨some ⟨g11, 0, none⟩, k, cap11, rfl, .inr ⟨?_, ?_, g11, rfl, ?_⟩⟩
                · rw [HFIN.out]; intro e; have := HTL.out; rw [e] at this; simp at this; omega
                · rw [HFIN.out, HTL.out]
                · rw [HFIN.out]; exact FF.out

/-- paths.Round -/
theorem xround (A : Option Addr) (c : Nat) (es : List Ed) (w : World) (E : Edges w A es) : Calls Try.prog 15 #[.slice A es.length c] w fun e w' => ∃ B n cap, e = .returned (.slice B n cap) ∧ PRet w w' B n cap (roundF (es.filter okb)) := by
  by_cases h : (itr (es.filter okb) 16).l = 0
  · refine (round_none A c es w E h).mono ?_
    rintro e w' ⟨rfl, hb⟩
    exact ⟨none, 0, 0, rfl, .inl ⟨roundF_nil h, rfl, rfl, rfl, hb⟩⟩
  · exact round_some A c es w E h
end Go.Proofs.Ytjopmkfpghdlpaa.A

