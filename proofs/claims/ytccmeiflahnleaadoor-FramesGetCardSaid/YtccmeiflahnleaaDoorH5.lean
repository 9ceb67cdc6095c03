/-
  The reference's Read.
-/
import Derived.Test.YtccmeiflahnleaaDoorH4
namespace Go.Proofs.YtccmeiflahnleaaDoor.A
set_option linter.unusedVariables false
set_option linter.unusedSimpArgs false
open Go.RowKit

theorem info22' : (Tryd.prog.info? 22).map (fun i => (i.zero, i.size, i.bytes)) = some (some (.slice none 0 0), 1, 24) := info22

/-- a part in a block of its own -/
def PartAt (n0 : Nat) (p : Part) (wr : World) : Prop := wr.ownsRow n0 5 1 (.slice p.A p.bs.length p.c) p.bs.length (enc8 p.bs) ∧ (∀ b ∈ p.bs, b < 256)
theorem PartAt.bytes {n0 : Nat} {p : Part} {wr : World} (h : PartAt n0 p wr) (hl : (p.bs.length : Int) ≤ 1099511627776) : Bytes wr p.A p.bs := ⟨own_reads h.1, h.2, hl⟩
theorem PartAt.later {n0 : Nat} {p : Part} {w wr : World} (h : PartAt n0 p w) (k : Below w.heap.size w wr) : PartAt n0 p wr := ⟨own_below h.1 k, h.2⟩
theorem own_apart {w : World} {b1 b2 n1 n2 s1 s2 : Nat} {t1 t2 : TypeId} {v1 v2 : Value} {x1 x2 : List Value} (h1 : w.ownsRow b1 t1 s1 v1 n1 x1) (h2 : w.ownsRow b2 t2 s2 v2 n2 x2) (hne : t1 ≠ t2) : v1.ownBlock = none ∨ v1.ownBlock ≠ v2.ownBlock := by
  rcases h1.2 with ⟨rfl, _⟩ | ⟨g, cap, cur, rfl, _, hg, _⟩
  · exact .inl rfl
  · exact .inr (own_ne h2 hg (Ne.symm hne))
theorem PartAt.grown {n0 b2 n2 s2 : Nat} {p : Part} {w wr : World} {t2 : TypeId} {v2 : Value} {x2 : List Value} (h : PartAt n0 p w) (h2 : w.ownsRow b2 t2 s2 v2 n2 x2) (hne : 5 ≠ t2) (G : w.grownBy wr v2.ownBlock) : PartAt n0 p wr :=
  ⟨h.1.kept G (own_apart h.1 h2 hne), h.2⟩

structure RR (w wr : World) (bs : List Nat) (L : Option Addr) (k c : Nat) (ps : List Part) (ys : List (List Nat × Nat)) (to : Nat) : Prop where
  own : wr.ownsRow w.heap.size 22 1 (.slice L k c) k (enc22 ps)
  read : readP bs = ys ++ framesP (bs.length + 1) to (bs.drop to)
  map : ys.map (·.1) = ps.map (·.bs)
  last : to = ys.foldl (fun _ x => x.2) 0
  parts : ∀ p ∈ ps, PartAt w.heap.size p wr
  below : Below w.heap.size w wr
  to_le : to ≤ bs.length
  cnt : ps.length ≤ to
  len : k = ps.length

/-- what Read hands back: the bodies in a row, and how far they go -/
def ReadRet (w : World) (bs : List Nat) (e : Ending) (w' : World) : Prop := ∃ L k c ps, e = .returned (.tuple #[.slice L k c, .int .i64 (good bs : Int)]) ∧ k = ps.length ∧ Reads w' L (enc22 ps) ∧ (∀ p ∈ ps, Bytes w' p.A p.bs) ∧ bodies bs = ps.map (·.bs) ∧ Below w.heap.size w w'
theorem RR.done {w wr : World} {bs : List Nat} {L : Option Addr} {k c to : Nat} {ps : List Part} {ys : List (List Nat × Nat)} (h : RR w wr bs L k c ps ys to) (he : (getP (bs.drop to)).2.2 ≠ 0) (hl : (bs.length : Int) ≤ 1099511627776) : readP bs = ys := by
  rw [h.read, framesP_stop to (bs.drop to) _ he, List.append_nil]
theorem readP_small {bs : List Nat} : ∀ x ∈ readP bs, x.1.length ≤ 8192 := by
  have : ∀ f to bs, ∀ x ∈ framesP f to bs, x.1.length ≤ 8192 := by
    intro f
    induction f with
    | zero => intro to bs x h; unfold framesP at h; exact absurd h (by simp)
    | succ f ih =>
      intro to bs x h
      unfold framesP at h
      by_cases e : (getP bs).2.2 ≠ 0
      · rw [if_pos e] at h
        exact absurd h (by simp)
      · rw [if_neg e] at h
        rcases List.mem_cons.1 h with rfl | h
        · obtain ⟨n, hd, _, _, _, h3, _, _, h7⟩ := getP_ok (Decidable.not_not.1 e)
          rw [h7]
          show ((bs.drop hd).take n).length ≤ 8192
          rw [List.length_take]
          omega
        · exact ih _ _ x h
  exact this _ _ _
theorem RR.ret {w wr wz : World} {bs : List Nat} {L : Option Addr} {k c to : Nat} {ps : List Part} {ys : List (List Nat × Nat)} (h : RR w wr bs L k c ps ys to) (he : (getP (bs.drop to)).2.2 ≠ 0) (hl : (bs.length : Int) ≤ 1099511627776) (hb : Below wr.heap.size wr wz) : ReadRet w bs (.returned (.tuple #[.slice L k c, .int .i64 (to : Int)])) wz := by
  have hr := h.done he hl
  refine ⟨L, k, c, ps, ?_, h.len, own_reads (own_below h.own hb), fun p hp => ((h.parts p hp).later hb).bytes ?_, ?_, below_call h.below hb⟩
  · unfold good
    rw [hr, ← h.last]
  · have h1 : p.bs ∈ ys.map (·.1) := by rw [h.map]; exact List.mem_map.2 ⟨p, hp, rfl⟩
    obtain ⟨y, hy, e⟩ := List.mem_map.1 h1
    rw [← hr] at hy
    have := readP_small y hy
    rw [← e]
    omega
  · unfold bodies
    rw [hr, h.map]
theorem RR.step {w wr w1 w2 : World} {bs : List Nat} {L A9 L2 : Option Addr} {k c c2 c9 to : Nat} {ps : List Part} {ys : List (List Nat × Nat)} (h : RR w wr bs L k c ps ys to) (e : (getP (bs.drop to)).2.2 = 0) (hq : Below wr.heap.size wr w1)
    (o : w1.ownsRow wr.heap.size 5 1 (.slice A9 (getP (bs.drop to)).1.length c9) (getP (bs.drop to)).1.length (enc8 (getP (bs.drop to)).1)) (hs : ∀ b ∈ (getP (bs.drop to)).1, b < 256)
    (o2 : w2.ownsRow w.heap.size 22 1 (.slice L2 (k + 1) c2) (k + 1) (enc22 ps ++ [.slice A9 (getP (bs.drop to)).1.length c9])) (u : World) (hu : u = w1.alloc (.cells #[.slice A9 (getP (bs.drop to)).1.length c9] 22 (0, 0))) (G : u.grownBy w2 (Value.slice L k c).ownBlock) :
    RR w w2 bs L2 (k + 1) c2 (ps ++ [⟨A9, c9, (getP (bs.drop to)).1⟩]) (ys ++ [((getP (bs.drop to)).1, to + (getP (bs.drop to)).2.1)]) (to + (getP (bs.drop to)).2.1) ∧ 0 < (getP (bs.drop to)).2.1 := by
  obtain ⟨n, hd, h1, h2, h3, h4, h5, h6, h7⟩ := getP_ok e
  have hlen : (bs.drop to).length = bs.length - to := List.length_drop
  have hto : to + (getP (bs.drop to)).2.1 ≤ bs.length := by rw [h7]; simp only []; omega
  have hpos : 0 < (getP (bs.drop to)).2.1 := by rw [h7]; simp only []; omega
  have hsz := h.below.size
  have hu1 : Below w1.heap.size w1 u := by rw [hu]; exact (Below.refl _ _).alloc (Nat.le_refl _) _
  have hL := own_below (own_below h.own hq) hu1
  refine ⟨⟨?_, ?_, ?_, ?_, ?_, ?_, hto, ?_, ?_⟩, hpos⟩
  · have : enc22 (ps ++ [⟨A9, c9, (getP (bs.drop to)).1⟩]) = enc22 ps ++ [.slice A9 (getP (bs.drop to)).1.length c9] := by
      unfold enc22
      rw [List.map_append]
      rfl
    rw [this]
    exact o2
  · rw [h.read, framesP_step to (bs.drop to) _ (by omega) e, List.append_assoc, List.drop_drop]
    rfl
  · rw [List.map_append, List.map_append, h.map]
    rfl
  · rw [List.foldl_append]
    rfl
  · intro p hp
    rcases List.mem_append.1 hp with hp | hp
    · exact (((h.parts p hp).later hq).later hu1).grown hL (by decide) G
    · rw [List.mem_singleton] at hp
      subst hp
      exact (PartAt.later ⟨own_lower o hsz, hs⟩ hu1).grown hL (by decide) G
  · exact below_grown (below_call (below_call h.below hq) hu1) (below_call (below_call h.below hq) hu1).size hL G
  · rw [List.length_append]
    have := h.cnt
    simp only [List.length_cons, List.length_nil]
    omega
  · rw [List.length_append, ← h.len]
    rfl

set_option maxHeartbeats 8000000 in
set_option maxRecDepth 100000 in
theorem xref_read (A : Option Addr) (c : Nat) (bs : List Nat) (w : World) (B : Bytes w A bs) (hc : bs.length ≤ c) (hA : c = 0 ∨ ∃ g0 off0, A = some ⟨g0, off0, none⟩) : Calls Tryd.prog 29 #[.slice A bs.length c] w (ReadRet w bs) := by
  have R0 : AsideA (RR w w bs none 0 0 [] [] 0) := ⟨⟨own_nil _ _ _ _, rfl, rfl, rfl, by simp, Below.refl _ _, by omega, by simp, rfl⟩⟩
  have HB := AsideA.mk B
  have HA := AsideA.mk hA
  have hlen := B.len
  obtain ⟨len, hl⟩ : ∃ len, len = bs.length := ⟨_, rfl⟩
  rw [← hl] at hc hlen ⊢
  have HL := AsideA.mk hl
  clear hl B hA
  go_enter Tryd.func29, Tryd.ntmps29
  go_wp2
  go_loopw [4, 5] (fun l t wr => ∃ (to k c1 : Nat) (L : Option Addr) (ps : List Part) (ys : List (List Nat × Nat)), l = .slice L k c1 ∧ t = .int .i64 (to : Int) ∧ to ≤ len ∧ (k : Int) ≤ len ∧ AsideA (RR w wr bs L k c1 ps ys to)) (fun _ t _ => len - (intOf t).toNat)
  case atStart => exact ⟨0, 0, 0, none, [], [], rfl, rfl, by omega, by omega, R0⟩
  case round =>
    obtain ⟨to, k, c1, L, ps, ys, rfl, rfl, hto, hk, I⟩ := hrel
    clear R0
    have K : AsideA (∃ A1, (if c = to then A1 = A else ∃ g0 off0, A = some ⟨g0, off0, none⟩ ∧ A1 = some ⟨g0, off0 + to, none⟩) ∧ Calls Tryd.prog 27 #[.slice A1 (len - to) (c - to)] wr (GetRet wr (bs.drop to))) := ⟨by
      by_cases hct : c = to
      · have hd : bs.drop to = [] := List.drop_eq_nil_of_le (by have := HL.out; omega)
        refine ⟨A, by rw [if_pos hct], ?_⟩
        have C := xref_get A (c - to) [] wr ⟨Reads.nil, by simp, by decide⟩ (by simp)
        rw [hd, show len - to = 0 by omega]
        exact C
      · obtain ⟨g0, off0, rfl⟩ : ∃ g0 off0, A = some ⟨g0, off0, none⟩ := HA.out.resolve_left (by omega)
        refine ⟨some ⟨g0, off0 + to, none⟩, by rw [if_neg hct]; exact ⟨g0, off0, rfl, rfl⟩, ?_⟩
        have C := xref_get (some ⟨g0, off0 + to, none⟩) (c - to) (bs.drop to) wr ((HB.out.below I.out.below).drop to) (by rw [List.length_drop]; have := HL.out; omega)
        rwa [List.length_drop, ← HL.out] at C⟩
    obtain ⟨A1, hA1, hC⟩ := K.out
    have C27 := AsideA.mk hC
    clear hC K
    have main : AsideA (Calls Tryd.prog 27 #[.slice A1 (len - to) (c - to)] wr (GetRet wr (bs.drop to))) := C27
    have hcase : (c = to ∧ A1 = A) ∨ (c ≠ to ∧ ∃ g0 off0, A = some ⟨g0, off0, none⟩ ∧ A1 = some ⟨g0, off0 + to, none⟩) := by
      by_cases h : c = to
      · rw [if_pos h] at hA1
        exact .inl ⟨h, hA1⟩
      · rw [if_neg h] at hA1
        exact .inr ⟨h, hA1⟩
    clear hA1 C27
    rcases hcase with ⟨hct, rfl⟩ | ⟨hct, g0, off0, rfl, rfl⟩
    · obtain rfl : len = to := by omega
      subst hct
      have he : (getP (bs.drop c)).2.2 ≠ 0 := by
        rw [List.drop_eq_nil_of_le (by have := HL.out; omega), getP_nil]
        decide
      have FIN := AsideA.mk (fun wz (hb : Below wr.heap.size wr wz) => I.out.ret he HB.out.len hb)
      unfold GetRet at main
      simp only [Nat.sub_self] at main
      generalize getP (bs.drop c) = r at *
      obtain ⟨body, sz, e0⟩ := r
      simp only [] at main he
      have d1 : ((e0 : Int) == 0) = false := beq_eq_false_iff_ne.mpr (by omega)
      have d2 : ((e0 : Int) != 0) = true := by rw [bne, d1]; rfl
      go_wp2_with fail
      refine main.out.mono ?_
      rintro e w1 ⟨A9, k9, c9, rfl, hk9, o9, hs9, hb⟩
      have F := AsideA.mk (FIN.out _ hb)
      clear o9 hs9 hb FIN
      go_wp2
      go_ret2
      exact F.out
    · by_cases he : (getP (bs.drop to)).2.2 = 0
      · have ST := AsideA.mk (fun (w1 w2 : World) (A9 L2 : Option Addr) (c9 c2 : Nat) => I.out.step (w1 := w1) (w2 := w2) (A9 := A9) (L2 := L2) (c9 := c9) (c2 := c2) he)
        unfold GetRet at main
        generalize getP (bs.drop to) = r at *
        obtain ⟨body, sz, e0⟩ := r
        simp only [] at main he ST
        subst he
        go_wp2_with fail
        refine main.out.mono ?_
        rintro e w1 ⟨A9, k9, c9, rfl, hk9, o9, hs9, hb⟩
        subst hk9
        have O9 := AsideA.mk (And.intro o9 (And.intro hs9 hb))
        have hkk : k ≤ 1099511627776 := by omega
        clear o9 hs9 hb
        go_wp2_with ((with_reducible refine gate (N := 24) rfl ?_); go_loud (refine append_own _ 40 _ _ rfl rfl w.heap.size 22 _ 1 24 Tryd.underlying40 info22 rfl (by decide) (.slice L k c1) k (enc22 ps) rfl (own_alloc (own_below I.out.own O9.out.2.2) _) (some ⟨w1.heap.size, 0, none⟩) 1 1 [.slice A9 body.length c9] rfl rfl (reads_built w1 22 [.slice A9 body.length c9]) (by simp [Value.oneCell']) (by simp only [maxLen]; omega) (by omega) (by have := (below_call I.out.below O9.out.2.2).size; simp; omega) ?_; intro v2 w2 o2 g2 p2; obtain ⟨L2, c2, e2⟩ := own_form o2; subst e2; have Z := AsideA.mk (ST.out w1 w2 A9 L2 c9 c2 O9.out.2.2 O9.out.1 O9.out.2.1 o2 _ rfl g2); have hz := Z.out.2; have hto2 : to + sz ≤ len := (by have h1 := Z.out.1.to_le; have h2 := HL.out; omega); clear o2 g2 p2))
        have hk2 : k + 1 ≤ len := by have h1 := Z.out.1.cnt; have h2 := Z.out.1.len; omega
        refine ⟨⟨to + sz, k + 1, c2, L2, _, _, rfl, by go_num, hto2, by omega, ⟨Z.out.1⟩⟩, ?_⟩
        simp [intOf]
        omega
      · have FIN := AsideA.mk (fun wz (hb : Below wr.heap.size wr wz) => I.out.ret he HB.out.len hb)
        unfold GetRet at main
        generalize getP (bs.drop to) = r at *
        obtain ⟨body, sz, e0⟩ := r
        simp only [] at main he
        have d1 : ((e0 : Int) == 0) = false := beq_eq_false_iff_ne.mpr (by omega)
        have d2 : ((e0 : Int) != 0) = true := by rw [bne, d1]; rfl
        go_wp2_with fail
        refine main.out.mono ?_
        rintro e w1 ⟨A9, k9, c9, rfl, hk9, o9, hs9, hb⟩
        have F := AsideA.mk (FIN.out _ hb)
        clear o9 hs9 hb FIN
        go_wp2
        go_ret2
        exact F.out
end Go.Proofs.YtccmeiflahnleaaDoor.A

