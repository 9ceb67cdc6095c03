/-
  paths.Short: the shortest way.
-/
import Derived.Test.YtjopmkfpghdlpaaX4
import Derived.Test.YtjopmkfpghdlpaaQ6
import Derived.Test.YtjopmkfpghdlpaaQ5
import Derived.Test.YtjopmkfpghdlpaaQ3
namespace Go.Proofs.Ytjopmkfpghdlpaa.A
set_option linter.unusedVariables false
set_option linter.unusedSimpArgs false
open Go.RowKit

/-- a way as far as it has come -/
structure Way (E : Nat → Nat → Prop) (D : List Int) (f : Nat) (P : List Nat) : Prop where
  pos : 1 ≤ P.length
  top : (P.length : Int) ≤ gi D f + 1
  first : gn P 0 = f
  rng : ∀ i, i < P.length → 1 ≤ gn P i ∧ gn P i ≤ 16
  dist : ∀ i, i < P.length → gi D (gn P i) = gi D f - i
  edge : ∀ i, i + 1 < P.length → E (gn P i) (gn P (i + 1))
  least : ∀ i, i + 1 < P.length → ∀ p, 1 ≤ p → p < gn P (i + 1) → gi D p = gi D (gn P i) - 1 → ¬ E (gn P i) p
theorem Way.start (E : Nat → Nat → Prop) (D : List Int) (f : Nat) (h1 : 1 ≤ f) (h2 : f ≤ 16) (h0 : 0 ≤ gi D f) : Way E D f [f] := by
  have hg : gn [f] 0 = f := rfl
  refine ⟨by simp, by simp; omega, rfl, fun i hi => ?_, fun i hi => ?_, fun i hi => by simp at hi, fun i hi => by simp at hi⟩
  · have : i = 0 := by simp at hi; omega
    subst this
    rw [hg]; omega
  · have : i = 0 := by simp at hi; omega
    subst this
    rw [hg]; omega
theorem Way.push {E : Nat → Nat → Prop} {D : List Int} {f p : Nat} {P : List Nat} (h : Way E D f P) (h1 : 1 ≤ p) (h2 : p ≤ 16) (hd : gi D p = gi D (gn P (P.length - 1)) - 1) (h0 : 0 ≤ gi D p) (hE : E (gn P (P.length - 1)) p)
    (hl : ∀ q, 1 ≤ q → q < p → gi D q = gi D (gn P (P.length - 1)) - 1 → ¬ E (gn P (P.length - 1)) q) : Way E D f (P ++ [p]) := by
  have hlen : (P ++ [p]).length = P.length + 1 := by simp
  have hg : ∀ i, i < P.length → gn (P ++ [p]) i = gn P i := fun i hi => gn_append_left hi
  have hgp : gn (P ++ [p]) P.length = p := gn_append_last P p
  have hp := h.pos
  have hlast := h.dist (P.length - 1) (by omega)
  refine ⟨by omega, by rw [hlen]; omega, by rw [hg 0 (by omega)]; exact h.first, fun i hi => ?_, fun i hi => ?_, fun i hi => ?_, fun i hi => ?_⟩
  · rw [hlen] at hi
    by_cases e : i = P.length
    · subst e; rw [hgp]; omega
    · rw [hg i (by omega)]; exact h.rng i (by omega)
  · rw [hlen] at hi
    by_cases e : i = P.length
    · subst e; rw [hgp]; omega
    · rw [hg i (by omega)]; exact h.dist i (by omega)
  · rw [hlen] at hi
    by_cases e : i + 1 = P.length
    · rw [e, hgp, hg i (by omega), show i = P.length - 1 by omega]; exact hE
    · rw [hg i (by omega), hg (i + 1) (by omega)]; exact h.edge i (by omega)
  · rw [hlen] at hi
    by_cases e : i + 1 = P.length
    · rw [e, hgp, hg i (by omega), show i = P.length - 1 by omega]; exact hl
    · rw [hg i (by omega), hg (i + 1) (by omega)]; exact h.least i (by omega)
/-- what the chapter says of the shortest way -/
def ShortIs (cp : List Int) (f t : Nat) (P : List Nat) : Prop :=
  (okp f = true ∧ okp t = true ∧ f ≠ t ∧ ∃ D, Hops (Edg cp) t D ∧ ((gi D f = 17 ∧ P = []) ∨ (gi D f ≠ 17 ∧ Way (Edg cp) D f P ∧ (P.length : Int) = gi D f + 1 ∧ gn P (P.length - 1) = t))) ∨ (¬ (okp f = true ∧ okp t = true ∧ f ≠ t) ∧ P = [])

section
variable {P : Program} {ops : Array Oper} {Q : Exit → Act → World → Prop} {rest : List Oper} {o : Oper} {a : Act}
theorem make_len {W : World} (t e : TypeId) (l c : Operand) (ho : o.op = .makeSlice t l c) (hgd : o.guard = none) (ht : P.underlying t = some (.slice e)) (z : Value) (size bytes : Nat)
    (hi : (P.info? e).map (fun i => (i.zero, i.size, i.bytes)) = some (some z, size, bytes)) (kl kc : IntKind) (m n : Nat) (hmn : m ≤ n) (L : Int) (hl : a.eval l = .int kl L) (hL : L = m) (C : Int) (hc : a.eval c = .int kc C) (hC : C = n) (hb : bytes * n ≤ 281474976710656) (h63 : (n : Int) ≤ 9223372036854775807)
    (h : ∀ g w1, New W w1 g (madeCells z.cells (n * size)) e → wpList P ops Q rest (a.put o.dst (.slice (some ⟨g, 0, none⟩) m n)) w1) : wpList P ops Q (o :: rest) a W := by
  subst hC hL
  obtain ⟨i, hi', hq⟩ := Option.map_eq_some_iff.1 hi
  simp only [Prod.mk.injEq] at hq
  obtain ⟨h1, rfl, rfl⟩ := hq
  have hb' : (i.bytes : Int) * ((n : Nat) : Int) ≤ 281474976710656 := by
    have h : ((i.bytes * n : Nat) : Int) ≤ 281474976710656 := by omega
    rwa [Int.natCast_mul] at h
  have hr := run_make (P := P) W t e i z ht hi' h1 kl kc m n (by omega) (by omega) hb' h63
  simp only [Int.toNat_natCast] at hr
  refine ev_val hgd ?_ (h _ _ (New.alloc W _ e))
  unfold execOp
  simp only [ho, hl, hc, Sem.run_bind, Sem.run_pure, hr, Result.andThen_ok]
end
theorem made30 (n : Nat) : madeCells (Value.int .u8 0).cells (n * 1) = (enc8 (List.replicate n 0)).toArray := by
  apply Array.ext_getElem?
  intro i
  simp only [madeCells, enc8, Nat.mul_one, List.getElem?_toArray, List.getElem?_map, List.getElem?_replicate, Array.getElem?_map, Array.getElem?_range]
  by_cases h : i < n
  · rw [if_pos h]; simp [h, Value.cells, Nat.mod_one]
  · rw [if_neg h]; simp [h]

def lenOfS : Value → Nat
  | .slice _ n _ => n
  | _ => 0
/-- a way that is being written down -/
structure WyAt (w wr : World) (gl go : Nat) (D : List Int) (P : List Nat) (tl : List Value) : Prop where
  lf : wr.heap[gl]? = some (.cells (dV D) 55 (0, 0))
  out : PBlk wr go P tl
  below : Below w.heap.size w wr
  ge : w.heap.size ≤ go
theorem WyAt.later {w wr w1 : World} {gl go : Nat} {D : List Int} {P : List Nat} {tl : List Value} (h : WyAt w wr gl go D P tl) (k : Below wr.heap.size wr w1) : WyAt w w1 gl go D P tl :=
  ⟨blk_below h.lf k, h.out.below k, below_call h.below k, h.ge⟩
theorem WyAt.push {w W w1 : World} {gl go p : Nat} {D : List Int} {P : List Nat} {tl : List Value} (h : WyAt w W gl go D P tl) (hb : w1.heap[go]? = some (.cells (enc8 (P ++ [p]) ++ tl.drop [p].length).toArray 30 (0, 0))) (hu : Upd W w1 go) : WyAt w w1 gl go D (P ++ [p]) (tl.drop 1) := by
  have hne : gl ≠ go := by
    rintro rfl
    have h1 := h.lf
    have h2 := h.out
    unfold PBlk at h2
    rw [h1] at h2
    injection h2 with h2
    injection h2 with _ h2
    exact absurd h2 (by decide)
  exact ⟨blk_upd hu h.lf hne, hb, hu.below h.below h.ge, h.ge⟩

set_option maxHeartbeats 8000000 in
set_option maxRecDepth 100000 in
theorem short_some (G : Option Addr) (cp : List Int) (f t : Nat) (w : World) (H : GrAt w G cp) (hf : okp f = true) (ht : okp t = true) (hne : f ≠ t) :
    Calls Try.prog 24 #[.pointer G, .int .u8 (f : Int), .int .u8 (t : Int)] w fun e w' => ∃ B n cap P, e = .returned (.slice B n cap) ∧ PRet w w' B n cap P ∧ ShortIs cp f t P := by
  have kf : 1 ≤ f ∧ f ≤ 16 := of_decide_eq_true hf
  have kt : 1 ≤ t ∧ t ≤ 16 := of_decide_eq_true ht
  have HG := AsideA.mk (fun (wz : World) (h : Below w.heap.size w wz) (a b : Nat) => xcap G cp a b wz (H.below h))
  have CH := AsideA.mk (xhops G cp t w H kt.1 kt.2)
  have CF := AsideA.mk (xmay f w)
  have CT := AsideA.mk (xmay t w)
  rw [hf] at CF
  rw [ht] at CT
  have HO := AsideA.mk (And.intro hf (And.intro ht hne))
  have f0 : (0 : Int) ≤ (f : Int) := by omega
  have f1 : (f : Int) < 17 := by omega
  have dft : ((f : Int) == (t : Int)) = false := beq_eq_false_iff_ne.mpr (by omega)
  clear H hf ht
  go_enter Try.func24, Try.ntmps24
  go_wp2_with (first
    | (go_at_call 42; (with_reducible refine CF.out.mono ?_); rintro e w' ⟨rfl, rfl⟩)
    | (go_at_call 42; (with_reducible refine CT.out.mono ?_); rintro e w' ⟨rfl, rfl⟩))
  refine CH.out.mono ?_
  rintro e w1 ⟨D, rfl, hD, hb⟩
  have DD := AsideA.mk (And.intro hD hb)
  have rf := hD.rng f kf.1 kf.2
  have DL := AsideA.mk hD.len
  clear hD hb CH CF CT
  by_cases h17 : gi D f = 17
  · have H17 := AsideA.mk h17
    clear h17 rf
    go_wp2_with (first
      | ((with_reducible refine gate (N := 7) rfl ?_); refine alloc_new 55 rfl rfl _ zero55 _ rfl ?_; intro gl w2 N2)
      | (refine store_at 55 (.tmp 7) (.tmp 26) rfl rfl gl 0 rfl (dV D) rfl _ _ N2.blk (size55 D DD.out.1.len) (by rw [dV_size, DD.out.1.len]; decide) (dV_one _) (dV D) (splice_all _ _ (by rw [dV_size, DD.out.1.len]; rfl)) ?_; intro w3 b3 u3; have B3 := AsideA.mk (u3.below (below_new DD.out.2 N2) (N2.ge DD.out.2)); have c0 := (blk_cell b3 f).trans (dV_at D f (by have := DL.out; omega)); rw [H17.out] at c0; clear b3 u3 N2))
    go_ret
    exact ⟨none, 0, 0, [], rfl, .inl ⟨rfl, rfl, rfl, rfl, B3.out⟩, .inl ⟨HO.out.1, HO.out.2.1, HO.out.2.2, D, DD.out.1, .inl ⟨H17.out, rfl⟩⟩⟩
  · have d17 : (gi D f == 17) = false := beq_eq_false_iff_ne.mpr h17
    have rf0 : 0 ≤ gi D f := rf.1
    have rf1 : gi D f ≤ 15 := by omega
    have H17 := AsideA.mk h17
    have W0 := AsideA.mk (Way.start (Edg cp) D f kf.1 kf.2 rf.1)
    clear h17 rf
    obtain ⟨d, hd⟩ : ∃ d : Nat, gi D f = d := ⟨(gi D f).toNat, by omega⟩
    have HD := AsideA.mk hd
    rw [hd] at rf0 rf1 d17
    clear hd
    go_wp2_with (first
      | ((with_reducible refine gate (N := 7) rfl ?_); refine alloc_new 55 rfl rfl _ zero55 _ rfl ?_; intro gl w2 N2)
      | ((with_reducible refine gate (N := 35) rfl ?_); go_loud (refine make_len 36 30 _ _ rfl rfl Try.underlying36 (.int .u8 0) 1 1 info30 _ _ 1 (d + 1) (by omega) _ rfl rfl _ rfl (by go_num) (by omega) (by omega) ?_); intro go w4 N4; go_loud (rw [made30] at N4); have b4 := N4.blk; have hz4 : PBlk w4 go (List.replicate (d + 1) 0) [] := (by unfold PBlk; rw [List.append_nil]; exact b4); go_loud (have c4 := hz4.at_ 0 (by simp)); have c4 := hz4.at_ 0 (by simp); have f4 := blk_frozen b4 0; go_loud (have WY : AsideA (WyAt w (w4.setCell ⟨go, 0, none⟩ (.int .u8 (f : Int))) gl go D [f] ((enc8 (List.replicate (d + 1) 0)).drop 1)) := ⟨by
          refine ⟨blk_set_other (blk_below B3.out.1 N4.below) _ _ (N4.ne B3.out.1), ?_, below_set (below_new B3.out.2 N4) (N4.ge B3.out.2), N4.ge B3.out.2⟩
          have h := hz4.set 0 f (by simp)
          unfold PBlk at h ⊢
          rw [h, List.append_nil, List.replicate_succ, List.set_cons_zero]
          rfl⟩); clear N4 b4 hz4)
      | ((with_reducible refine gate2 (.tmp 7) (.tmp 26) rfl ?_); refine store_at 55 (.tmp 7) (.tmp 26) rfl rfl gl 0 rfl (dV D) rfl _ _ N2.blk (size55 D DD.out.1.len) (by rw [dV_size, DD.out.1.len]; decide) (dV_one _) (dV D) (splice_all _ _ (by rw [dV_size, DD.out.1.len]; rfl)) ?_; intro w3 b3 u3; have B3 := AsideA.mk (And.intro b3 (u3.below (below_new DD.out.2 N2) (N2.ge DD.out.2))); have c0 := (blk_cell b3 f).trans (dV_at D f (by have := DL.out; omega)); rw [HD.out] at c0; clear b3 u3 N2))
    have HLT := AsideA.mk (show ((enc8 (List.replicate (d + 1) 0)).drop 1).length = d by rw [List.length_drop, enc8_len, List.length_replicate]; rfl)
    generalize hw5 : w4.setCell ⟨go, 0, none⟩ (.int .u8 (f : Int)) = w5 at *
    clear hw5 c0 c4 f4
    go_loopw [8, 9] (fun v a wr => ∃ (P : List Nat) (tl : List Value) (x m : Nat), v = .slice (some ⟨go, 0, none⟩) m (d + 1) ∧ a = .int .u8 (x : Int) ∧ m ≤ d + 1 ∧ AsideA (m = P.length ∧ P.length + tl.length = d + 1 ∧ Way (Edg cp) D f P ∧ gn P (P.length - 1) = x ∧ WyAt w wr gl go D P tl)) (fun v _ _ => d + 1 - lenOfS v)
    case atStart => exact ⟨[f], _, f, 1, rfl, rfl, by omega, ⟨rfl, by rw [HLT.out]; simp; omega, W0.out, rfl, WY.out⟩⟩
    case round =>
      obtain ⟨P, tl, x, m, rfl, rfl, hm, I⟩ := hrel
      clear W0 WY HLT
      have hxr := I.out.2.2.1.rng (P.length - 1) (by have := I.out.2.2.1.pos; omega)
      rw [I.out.2.2.2.1] at hxr
      have hxd := I.out.2.2.1.dist (P.length - 1) (by have := I.out.2.2.1.pos; omega)
      rw [I.out.2.2.2.1, HD.out] at hxd
      by_cases hxt : x = t
      · subst hxt
        have hz := DD.out.1.zero
        have HF := AsideA.mk (show m = d + 1 by have := I.out.2.2.1.pos; have := I.out.1; omega)
        clear hxd hz hxr
        go_wp2
        go_ret
        refine ⟨some ⟨go, 0, none⟩, m, d + 1, P, rfl, .inr ⟨?_, I.out.1, go, rfl, ⟨⟨tl, I.out.2.2.2.2.out, I.out.2.1⟩, I.out.2.2.2.2.ge, I.out.2.2.2.2.below, by unfold maxLen; omega⟩⟩, .inl ⟨HO.out.1, HO.out.2.1, HO.out.2.2, D, DD.out.1, .inr ⟨H17.out, I.out.2.2.1, by rw [HD.out, ← I.out.1, HF.out]; rfl, I.out.2.2.2.1⟩⟩⟩
        intro e
        have := I.out.2.2.1.pos
        rw [e] at this
        simp at this
      · have dxt : ((x : Int) == (t : Int)) = false := beq_eq_false_iff_ne.mpr (by omega)
        have dxt2 : ((x : Int) != (t : Int)) = true := by rw [bne, dxt]; rfl
        go_wp2
        go_loopw [9, 10] (fun a p wz => ∃ p0 : Nat, 1 ≤ p0 ∧ p0 ≤ 17 ∧ a = .int .u8 (x : Int) ∧ p = .int .u8 (p0 : Int) ∧ AsideA (WyAt w wz gl go D P tl ∧ ∀ q, 1 ≤ q → q < p0 → gi D q = gi D x - 1 → ¬ Edg cp x q)) (fun _ p _ => 17 - (intOf p).toNat)
        case atStart => exact ⟨1, by omega, by omega, rfl, rfl, ⟨I.out.2.2.2.2, fun q _ _ => by omega⟩⟩
        case round =>
          obtain ⟨p0, hp1, hp2, rfl, rfl, J⟩ := hrel
          by_cases hlt : p0 < 17
          · have c1 := (blk_cell J.out.1.lf p0).trans (dV_at D p0 (by have := DL.out; omega))
            have c2 := (blk_cell J.out.1.lf x).trans (dV_at D x (by have := DL.out; omega))
            have CQ : AsideA (∀ n, Calls Try.prog 25 #[.pointer G, .int .u8 (x : Int), .int .u8 (p0 : Int)] (wr.drewN n) fun e w' => e = .returned (.int .i64 (capF cp x p0)) ∧ w' = wr.drewN n) := ⟨fun n => (HG.out _ (J.out.1.later (below_drewN wr n)).below x p0).mono fun e w' ⟨h1, h2⟩ => ⟨h1, h2.symm⟩⟩
            have p00 : (0 : Int) ≤ (p0 : Int) := by omega
            have p01 : (p0 : Int) < 17 := by omega
            have x00 : (0 : Int) ≤ (x : Int) := by omega
            have x01 : (x : Int) < 17 := by omega
            have rp := DD.out.1.rng p0 hp1 (by omega)
            have rx := DD.out.1.rng x hxr.1 hxr.2
            have hx0 : gi D x ≠ 0 := fun e => hxt (DD.out.1.pos hxr.1 hxr.2 e)
            have HM := AsideA.mk (show m ≤ d by have := I.out.2.2.1.pos; have := I.out.1; omega)
            have PUSH := AsideA.mk (fun (h1 : gi D p0 = gi D x - 1) (h2 : Edg cp x p0) => I.out.2.2.1.push (p := p0) hp1 (by omega) (by rw [I.out.2.2.2.1]; exact h1) rp.1 (by rw [I.out.2.2.2.1]; exact h2) (by rw [I.out.2.2.2.1]; exact J.out.2))
            have rp0 : 0 ≤ gi D p0 := rp.1
            have rp1 : gi D p0 ≤ 17 := by omega
            have rx0 : 1 ≤ gi D x := by omega
            have rx1 : gi D x ≤ 16 := by omega
            have hw : IntKind.i64.wrap (gi D x - 1) = gi D x - 1 := by rw [IntWalk.i64_in _ (by omega)]
            clear rp rx hx0 hxd
            generalize hpx : gi D p0 = px at *
            generalize hxx : gi D x = xx at *
            have HPX := AsideA.mk (And.intro hpx hxx)
            clear hpx hxx
            by_cases heq : px = xx - 1
            · have deq : (px == xx - 1) = true := by rw [heq]; exact beq_self_eq_true _
              by_cases hcv : 0 < capF cp x p0
              · have dcv : decide (0 < capF cp x p0) = true := decide_eq_true hcv
                have PP := AsideA.mk (PUSH.out heq hcv)
                have HEQ := AsideA.mk heq
                clear heq hcv
                generalize capF cp x p0 = cv at CQ dcv
                have WB : AsideA (∀ n, WyAt w ((wr.drewN n).alloc (.cells #[.int .u8 (p0 : Int)] 30)) gl go D P tl ∧ ((wr.drewN n).alloc (.cells #[.int .u8 (p0 : Int)] 30)).heap[wr.heap.size]? = some (.cells #[.int .u8 (p0 : Int)] 30 (0, 0))) := ⟨fun n => ⟨(J.out.1.later (below_drewN wr n)).later ((Below.refl _ _).alloc (Nat.le_refl _) _), heap_alloc_new (wr.drewN n) (.cells #[.int .u8 (p0 : Int)] 30)⟩⟩
                have R1 : AsideA (∀ n, Reads ((wr.drewN n).alloc (.cells #[.int .u8 (p0 : Int)] 30)) (some ⟨wr.heap.size, 0, none⟩) (enc8 [p0])) := ⟨fun n => Reads.of_block (WB.out n).2 _ (fun j u h => by rw [Nat.zero_add, ← h]; cases j <;> rfl)⟩
                have F1 : AsideA (m * 1 + (enc8 [p0]).length ≤ (enc8 P ++ tl).toArray.size) := ⟨by
                  have e1 := enc8_len P
                  have e2 : (enc8 [p0]).length = 1 := rfl
                  have := I.out.1; have := I.out.2.1; have := HM.out
                  rw [List.size_toArray, List.length_append]
                  omega⟩
                have F2 : AsideA (((enc8 P ++ tl).toArray.toList.take (m * 1) ++ enc8 [p0] ++ (enc8 P ++ tl).toArray.toList.drop (m * 1 + (enc8 [p0]).length)).toArray = (enc8 (P ++ [p0]) ++ tl.drop [p0].length).toArray) := ⟨by
                  have e2 : ([p0] : List Nat).length = 1 := rfl
                  rw [I.out.1]
                  exact fill_step P [p0] tl (by have := I.out.1; have := I.out.2.1; have := HM.out; omega)⟩
                have F3 : AsideA (m + 1 ≤ d + 1) := ⟨by have := HM.out; omega⟩
                go_wp2
                go_quiet ((go_at_call 25; exact Calls.quiet_of_same (CQ.out _)))
                clear c1 c2
                go_wp2_with ((with_reducible refine gate (N := 66) rfl ?_); go_loud (refine append_put 36 30 (.tmp 63) (.tmp 65) rfl rfl 1 Try.underlying36 info30s go m (d + 1) rfl _ (WB.out _).1.out (some ⟨wr.heap.size, 0, none⟩) 1 1 rfl (enc8 [p0]) rfl (by decide) (R1.out _) (enc8_one _) F3.out F1.out _ F2.out ?_); intro w9 b9 u9; have Z9 := AsideA.mk (WyAt.push (WB.out _).1 b9 u9); clear b9 u9)
                refine ⟨⟨P ++ [p0], tl.drop 1, p0, m + 1, rfl, rfl, by have := HM.out; omega, ⟨by rw [List.length_append, I.out.1]; rfl, by rw [List.length_append, List.length_drop]; have := I.out.1; have := I.out.2.1; have := HM.out; simp only [List.length_singleton]; omega, PP.out, by rw [List.length_append]; exact gn_append_last P p0, Z9.out⟩⟩, by simp [lenOfS]; have := HM.out; omega⟩
              · have dcv : decide (0 < capF cp x p0) = false := decide_eq_false hcv
                have HCV : AsideA (¬ Edg cp x p0) := ⟨hcv⟩
                clear heq hcv
                generalize capF cp x p0 = cv at CQ dcv
                go_wp2
                go_quiet ((go_at_call 25; exact Calls.quiet_of_same (CQ.out _)))
                clear c1 c2
                go_wp2
                exact ⟨⟨p0 + 1, by omega, by omega, rfl, by go_num, ⟨J.out.1.later (below_drewN _ _), fun q q1 q2 hq hE => by
                  by_cases e : q = p0
                  · subst e; exact HCV.out hE
                  · exact J.out.2 q q1 (by omega) hq hE⟩⟩, by simp [intOf]; omega⟩
            · have deq : (px == xx - 1) = false := beq_eq_false_iff_ne.mpr heq
              have HNE := AsideA.mk heq
              clear heq
              go_wp2
              go_quiet ((go_at_call 25; exact Calls.quiet_of_same (CQ.out _)))
              clear c1 c2
              go_wp2
              exact ⟨⟨p0 + 1, by omega, by omega, rfl, by go_num, ⟨J.out.1.later (below_drewN _ _), fun q q1 q2 hq hE => by
                  by_cases e : q = p0
                  · subst e; exact HNE.out (by rw [← HPX.out.1]; exact hq)
                  · exact J.out.2 q q1 (by omega) hq hE⟩⟩, by simp [intOf]; omega⟩
          · exfalso
            have hp17 : p0 = 17 := by omega
            have rx := DD.out.1.rng x hxr.1 hxr.2
            have hx0 : gi D x ≠ 0 := fun e => hxt (DD.out.1.pos hxr.1 hxr.2 e)
            have hx17 : gi D x ≠ 17 := by have := I.out.2.2.1.pos; omega
            obtain ⟨q, q1, q2, hE, _, he⟩ := DD.out.1.back x hxr.1 hxr.2 hxt hx17
            exact J.out.2 q q1 (by omega) (by omega) hE

theorem short_none (G : Option Addr) (f t : Nat) (w : World) (h : ¬ (okp f = true ∧ okp t = true ∧ f ≠ t)) : Calls Try.prog 24 #[.pointer G, .int .u8 (f : Int), .int .u8 (t : Int)] w fun e w' => e = .returned (.slice none 0 0) ∧ w = w' := by
  have CF := AsideA.mk (xmay f w)
  have CT := AsideA.mk (xmay t w)
  cases hf : okp f with
  | false =>
    rw [hf] at CF
    clear h hf
    go_enter Try.func24, Try.ntmps24
    go_wp2_with (go_at_call 42; (with_reducible refine CF.out.mono ?_); rintro e w' ⟨rfl, rfl⟩)
    go_ret
    exact ⟨rfl, rfl⟩
  | true =>
    cases ht : okp t with
    | false =>
      rw [hf] at CF
      rw [ht] at CT
      clear h hf ht
      go_enter Try.func24, Try.ntmps24
      go_wp2_with (first
        | (go_at_call 42; (with_reducible refine CF.out.mono ?_); rintro e w' ⟨rfl, rfl⟩)
        | (go_at_call 42; (with_reducible refine CT.out.mono ?_); rintro e w' ⟨rfl, rfl⟩))
      go_ret
      exact ⟨rfl, rfl⟩
    | true =>
      have hft : f = t := by
        apply Decidable.byContradiction
        intro hne
        exact h ⟨hf, ht, hne⟩
      subst hft
      rw [hf] at CF
      clear h hf ht CT
      go_enter Try.func24, Try.ntmps24
      go_wp2_with (go_at_call 42; (with_reducible refine CF.out.mono ?_); rintro e w' ⟨rfl, rfl⟩)
      go_ret
      exact ⟨rfl, rfl⟩
theorem xshort (G : Option Addr) (cp : List Int) (f t : Nat) (w : World) (H : GrAt w G cp) : Calls Try.prog 24 #[.pointer G, .int .u8 (f : Int), .int .u8 (t : Int)] w fun e w' => ∃ B n cap P, e = .returned (.slice B n cap) ∧ PRet w w' B n cap P ∧ ShortIs cp f t P := by
  by_cases h : okp f = true ∧ okp t = true ∧ f ≠ t
  · exact short_some G cp f t w H h.1 h.2.1 h.2.2
  · refine (short_none G f t w h).mono ?_
    rintro e w' ⟨rfl, rfl⟩
    exact ⟨none, 0, 0, [], rfl, .inl ⟨rfl, rfl, rfl, rfl, Below.refl _ _⟩, .inr ⟨h, rfl⟩⟩
end Go.Proofs.Ytjopmkfpghdlpaa.A

