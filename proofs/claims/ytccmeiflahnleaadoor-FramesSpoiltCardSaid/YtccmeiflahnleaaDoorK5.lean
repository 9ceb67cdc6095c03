/-
  The law FramesCut, its walk.
-/
import Derived.Test.YtccmeiflahnleaaDoorK4
namespace Go.Proofs.YtccmeiflahnleaaDoor.A
set_option linter.unusedVariables false
set_option linter.unusedSimpArgs false
open Go.RowKit

structure CutAt (w wr : World) (A : Option Addr) (ps : List Part) (B E L : Option Addr) (qs : List Part) : Prop where
  la : Reads wr A (enc22 ps)
  pa : ∀ p ∈ ps, Bytes wr p.A p.bs
  tab : TabAt wr
  bb : PutB w wr B (cat (ps.map (·.bs)))
  ee : Reads wr E (encI (endsL (ps.map (·.bs))))
  rr : RowAt wr L qs
  below : Below w.heap.size w wr
theorem CutAt.later {w wr wz : World} {A : Option Addr} {ps : List Part} {B E L : Option Addr} {qs : List Part} (h : CutAt w wr A ps B E L qs) (k : Below wr.heap.size wr wz) : CutAt w wz A ps B E L qs :=
  ⟨h.la.below k, fun p hp => (h.pa p hp).below k, h.tab.below k, h.bb.later k, h.ee.below k, h.rr.later k, below_call h.below k⟩

set_option maxHeartbeats 8000000 in
set_option maxRecDepth 100000 in
theorem xcut (A : Option Addr) (n c z : Nat) (ps : List Part) (w : World) (T : TabAt w) (RA : Reads w A (enc22 ps)) (PA : (∀ p ∈ ps, p.bs.length ≤ 8192) → ∀ p ∈ ps, Bytes w p.A p.bs) (hn : n = ps.length) (hz : (z : Int) < 65536) : Calls Tryd.prog 8 #[.slice A n c, .int .u16 (z : Int)] w fun e w' => e = .returned (.bool true) ∧ Below w.heap.size w w' := by
  have HA := AsideA.mk RA
  have HP := AsideA.mk PA
  have HT := AsideA.mk T
  have HN := AsideA.mk hn
  have C31 := AsideA.mk (xgreat A n c ps w RA hn)
  have C23 := AsideA.mk (fun (wz : World) (h : TabAt wz) => lives18 wz h)
  clear RA hn PA T
  go_enter Tryd.func8, Tryd.ntmps8
  go_wp2_with fail
  refine C31.out.mono ?_
  rintro e w1 ⟨r, rfl, hr, hb⟩
  have HR := AsideA.mk hr
  have B1 := AsideA.mk hb
  clear hr hb C31
  cases r with
  | true =>
    go_wp2_with fail
    refine (C23.out w1 (HT.out.below B1.out)).mono ?_
    rintro e w2 ⟨rfl, hq⟩
    have B2 := AsideA.mk (below_call B1.out hq)
    clear hq
    go_wp2_with fail
    go_ret
    exact ⟨rfl, B2.out⟩
  | false =>
    have S : AsideA (Small (ps.map (·.bs))) := ⟨HR.out rfl⟩
    have P : AsideA (∀ p ∈ ps, Bytes w p.A p.bs) := ⟨HP.out (fun p hp => S.out.1 _ (List.mem_map.2 ⟨p, hp, rfl⟩))⟩
    have BD : AsideA (∀ b ∈ ps.map (·.bs), Body b) := ⟨fun b hb => by
      obtain ⟨p, hp, rfl⟩ := List.mem_map.1 hb
      exact ⟨S.out.1 _ hb, (P.out p hp).small⟩⟩
    have C32 := AsideA.mk (xput_all A n c ps w1 (HT.out.below B1.out) (HA.out.below B1.out) (fun p hp => (P.out p hp).below B1.out) HN.out S.out)
    have CL : AsideA ((cat (ps.map (·.bs))).length ≤ 20000 ∧ ps.length ≤ 2000) := ⟨by
      have h1 := cat_len (ps.map (·.bs)) S.out.1
      have h2 := tot_count (ps.map (·.bs))
      have := S.out.2
      rw [List.length_map] at h2
      omega⟩
    clear HR HP
    go_wp2_with fail
    refine C32.out.mono ?_
    rintro e w2 ⟨B, m, E, ce, k0, rfl, hm, hk0, hput, hown, hb⟩
    have hee := own_reads hown
    clear hown
    have hm2 : (m : Int) ≤ 20000 := by have := CL.out; omega
    have hk2 : (k0 : Int) ≤ 2000 := by have := CL.out; rw [List.length_map] at hk0; omega
    have B2 := AsideA.mk (below_call B1.out hb)
    have HM := AsideA.mk (And.intro hm hk0)
    have X0 : AsideA (∀ L qs wz, Below w2.heap.size w2 wz → RowAt wz L qs → CutAt w1 wz A ps B E L qs) := ⟨fun L qs wz hz hR => ⟨(HA.out.below B2.out).below hz, fun p hp => ((P.out p hp).below B2.out).below hz, (HT.out.below B2.out).below hz, hput.later hz, hee.below hz, hR, below_call hb hz⟩⟩
    have PB := AsideA.mk hput
    have EE := AsideA.mk hee
    clear hm hk0 hput hee hb C32
    obtain ⟨to, hto⟩ : ∃ to, to = z % (m + 1) := ⟨_, rfl⟩
    have hto1 : to ≤ m := by have := Nat.mod_lt z (show 0 < m + 1 by omega); omega
    have eto : (z : Int) % ((m : Int) + 1) = (to : Int) := by rw [hto, Int.natCast_emod]; rfl
    have hcat : Bytes w2 B (cat (ps.map (·.bs))) := PB.out.bytes (cat_bytes (fun b hb => (BD.out b hb).2)) (by have := CL.out; omega)
    have hBA : m = 0 ∨ ∃ g0 off0, B = some ⟨g0, off0, none⟩ := by
      rcases PB.out with ⟨h1, _⟩ | ⟨g, cap, e, _⟩
      · left
        rw [HM.out.1, h1]
        rfl
      · exact .inr ⟨g, 0, e⟩
    have HC := AsideA.mk hcat
    have HBA := AsideA.mk hBA
    have C28 := AsideA.mk (read_ret B m to ((cat (ps.map (·.bs))).take to) _ w2 (hcat.take to) (HT.out.below B2.out) (by rw [List.length_take]; have := HM.out.1; omega) hto1 hBA (cut_read _ to BD.out) (whole (ps.map (·.bs)) to) (lastE (ps.map (·.bs)) (whole (ps.map (·.bs)) to)) (by rw [List.length_take, frs_len]; have := whole_le (ps.map (·.bs)) to; omega) (cut_last _ _).symm)
    rw [cut_fst] at C28
    have WI := AsideA.mk (whole_in (ps.map (·.bs)) to)
    have WO := AsideA.mk (whole_out (ps.map (·.bs)) to)
    have WL := AsideA.mk (whole_le (ps.map (·.bs)) to)
    generalize hwh : whole (ps.map (·.bs)) to = y at *
    have hy2 : y ≤ k0 := by have := WL.out; have := HM.out.2; omega
    obtain ⟨gy, hgy⟩ : ∃ gy, gy = lastE (ps.map (·.bs)) y := ⟨_, rfl⟩
    rw [← hgy] at C28
    have HGY := AsideA.mk hgy
    clear hcat hBA hto hgy hwh
    go_wp2_with fail
    refine C28.out.mono ?_
    rintro e w3 ⟨L, qs, rfl, hrow, hqs, hb⟩
    have X := AsideA.mk (X0.out L qs w3 hb hrow)
    have HQ := AsideA.mk hqs
    clear hrow hqs hb C28 X0 hz
    go_wp2
    go_loopw [10, 11] (fun i l wr => ∃ k l0 : Nat, k ≤ y ∧ i = .int .i64 k ∧ l = .int .i64 (l0 : Int) ∧ AsideA (l0 = lastE (ps.map (·.bs)) k) ∧ AsideA (wr = w3)) (fun i _ _ => y - (intOf i).toNat)
    case atStart => exact ⟨0, 0, by omega, rfl, rfl, ⟨rfl⟩, ⟨rfl⟩⟩
    case round =>
      obtain ⟨k, l0, hk, rfl, rfl, HL, HW⟩ := hrel
      obtain rfl := HW.out
      by_cases hlt : k < y
      · obtain ⟨x, hx, hxt⟩ := WI.out k hlt
        obtain ⟨gE, oE, rfl, hc⟩ := readI_cell X.out.ee k x hx
        have c0 := hc wr (Below.refl _ _)
        have ST := AsideA.mk (lastE_step _ k x hx)
        clear hc hx
        go_wp2
        exact ⟨⟨k + 1, x, by omega, by go_num, rfl, ⟨ST.out.symm⟩, ⟨by first | rfl | trivial⟩⟩, by simp [intOf]; omega⟩
      · obtain rfl : k = y := by omega
        have el : l0 = gy := by rw [HL.out, HGY.out]
        subst el
        clear HW
        have goal2 : AsideA ((k0 : Int) ≤ k ∨ (k < k0 ∧ ∃ gE oE, ∃ x : Nat, E = some ⟨gE, oE, none⟩ ∧ wr.cell? ⟨gE, oE + k, none⟩ = some (.int .i64 (x : Int)) ∧ (to : Int) < x)) := ⟨by
          by_cases h : k = k0
          · exact .inl (by omega)
          · obtain ⟨x, hx, hxt⟩ := WO.out (by have := HM.out.2; omega)
            obtain ⟨gE, oE, e1, hc⟩ := readI_cell X.out.ee k x hx
            exact .inr ⟨by omega, gE, oE, x, e1, hc wr (Below.refl _ _), by omega⟩⟩
        have hkn : k ≤ n := by
          have h1 := WL.out
          have h2 := HN.out
          rw [List.length_map] at h1
          omega
        have C28b := AsideA.mk (fun wz (hX : CutAt w1 wz A ps B E L qs) => read_ret B m m (cat (ps.map (·.bs))) (frs 0 (ps.map (·.bs))) wz (hX.bb.bytes (cat_bytes (fun b hb => (BD.out b hb).2)) (by have := CL.out; omega)) hX.tab HM.out.1 (Nat.le_refl _) HBA.out (read_all _ BD.out) n m (by rw [frs_len, List.length_map]; exact HN.out) (by rw [good_all, Nat.zero_add]; exact HM.out.1))
        rcases goal2.out with hge | ⟨hk0, gE, oE, x, rfl, c0, hx⟩
        all_goals (clear goal2 WI WO WL HL HGY PB HC)
        all_goals go_wp2
        all_goals (try clear c0)
        all_goals (
          have I0 : AsideA (CutAt w1 wr A ps B _ L qs) := X
          clear X
          go_loopw [12] (fun i wz => ∃ j : Nat, j ≤ k ∧ i = .int .i64 j ∧ AsideA (CutAt w1 wz A ps B _ L qs)) (fun i _ => k - (intOf i).toNat)
          case atStart => exact ⟨0, by omega, rfl, I0⟩
          case round =>
            clear I0
            obtain ⟨j, hj, rfl, I⟩ := hrel
            by_cases hlt : j < k
            · obtain ⟨q, hq⟩ : ∃ q, qs[j]? = some q := ⟨qs[j]'(by
                have h1 := congrArg List.length HQ.out
                rw [List.length_map, List.length_take, List.length_map] at h1
                have := HN.out
                omega), List.getElem?_eq_getElem _⟩
              have hpb : (ps.map (·.bs))[j]? = some q.bs := by
                have h1 : ((ps.map (·.bs)).take k)[j]? = some q.bs := by rw [← HQ.out, List.getElem?_map, hq]; rfl
                rw [List.getElem?_take, if_pos hlt] at h1
                exact h1
              obtain ⟨p, hp, hpq⟩ : ∃ p, ps[j]? = some p ∧ p.bs = q.bs := by
                rw [List.getElem?_map] at hpb
                cases hp : ps[j]? with
                | none => rw [hp] at hpb; cases hpb
                | some p => rw [hp] at hpb; exact ⟨p, rfl, Option.some.inj hpb⟩
              obtain ⟨gL, oL, rfl, hc1⟩ := part_cell I.out.rr.reads j q hq
              obtain ⟨gA, oA, rfl, hc2⟩ := part_cell I.out.la j p hp
              have S1 := AsideA.mk (fun (wz : World) (h : Below wr.heap.size wr wz) => str8 wz q.A q.c q.bs ((I.out.rr.bytes q (List.mem_of_getElem? hq)).below h))
              have S2 := AsideA.mk (fun (wz : World) (h : Below wr.heap.size wr wz) => str8 wz p.A p.c p.bs ((I.out.pa p (List.mem_of_getElem? hp)).below h))
              have HC1 := AsideA.mk hc1
              have HC2 := AsideA.mk hc2
              clear hc1 hc2 hq hp hpb
              obtain ⟨qA, qc, qb⟩ := q
              obtain ⟨pA, pc, pb⟩ := p
              simp only [] at hpq
              subst hpq
              simp only [] at S1 S2 HC1 HC2
              generalize strB pb = st at *
              obtain ⟨pl, hpl⟩ : ∃ pl, pl = pb.length := ⟨_, rfl⟩
              rw [← hpl] at S1 S2 HC1 HC2
              clear hpl
              have hjn : j < n := by omega
              go_wp2_with fail
              refine region_picked follows [68, 69, 70, 71, 72, 73, 74, 75, 76, 77, 78] (fun (_y : Unit) => [(68, .slice (some ⟨gL, oL, none⟩) k k), (69, .int .i64 j), (70, .pointer (some ⟨gL, oL + j, none⟩)), (71, .slice qA pl qc), (72, .string st), (73, .slice (some ⟨gA, oA, none⟩) n c), (74, .int .i64 j), (75, .pointer (some ⟨gA, oA + j, none⟩)), (76, .slice pA pl pc), (77, .string st), (78, .bool false)]) (by intro _; rfl) _ (by intro _; simp only [actPuts]; go_simp; rfl) 98 rfl (by kernel_rfl)
                (fun (pk : Option (Unit)) (ls : Array Bool) (wz : World) => Below wr.heap.size wr wz) ?_ ?_ ?_
              · intro ls hl
                exact (Below.refl _ _).drew
              · refine ⟨?_, ?_, ?_, ?_, ?_, ?_, ?_, ?_, ?_, ?_, ?_, trivial⟩
                · intro pk ls wz x hs hl hn h hx
                  exact opc_val rfl (v := .slice (some ⟨gL, oL, none⟩) k k) (w' := wz) (by go_simp) rfl (fun _ => rfl) (h)
                · intro pk ls wz x hs hl hn h hx
                  exact opc_val rfl (v := .int .i64 j) (w' := wz) (by go_simp) rfl (fun _ => rfl) (h)
                · intro pk ls wz x hs hl hn h hx
                  exact opc_val rfl (v := .pointer (some ⟨gL, oL + j, none⟩)) (w' := wz) (by go_simp) rfl (fun _ => rfl) (h)
                · intro pk ls wz x hs hl hn h hx
                  have hc := HC1.out wz h
                  exact opc_val rfl (v := .slice qA pl qc) (w' := wz) (by go_simp) rfl (fun _ => rfl) (h)
                · intro pk ls wz x hs hl hn h hx
                  have H := S1.out wz h
                  exact opc_val rfl (v := .string st) (w' := wz) (by go_simp) rfl (fun _ => rfl) (h)
                · intro pk ls wz x hs hl hn h hx
                  exact opc_val rfl (v := .slice (some ⟨gA, oA, none⟩) n c) (w' := wz) (by go_simp) rfl (fun _ => rfl) (h)
                · intro pk ls wz x hs hl hn h hx
                  exact opc_val rfl (v := .int .i64 j) (w' := wz) (by go_simp) rfl (fun _ => rfl) (h)
                · intro pk ls wz x hs hl hn h hx
                  exact opc_val rfl (v := .pointer (some ⟨gA, oA + j, none⟩)) (w' := wz) (by go_simp) rfl (fun _ => rfl) (h)
                · intro pk ls wz x hs hl hn h hx
                  have hc := HC2.out wz h
                  exact opc_val rfl (v := .slice pA pl pc) (w' := wz) (by go_simp) rfl (fun _ => rfl) (h)
                · intro pk ls wz x hs hl hn h hx
                  have H := S2.out wz h
                  exact opc_val rfl (v := .string st) (w' := wz) (by go_simp) rfl (fun _ => rfl) (h)
                · intro pk ls wz x hs hl hn h hx
                  exact opc_val rfl (v := .bool false) (w' := wz) (by go_simp) rfl (fun _ => rfl) (h)
              · intro c' l' w5 x' hd h hx
                have Z := AsideA.mk (I.out.later h)
                clear hd h hx I
                go_wp2
                exact ⟨⟨j + 1, by omega, by go_num, Z⟩, by simp [intOf]; omega⟩
            · obtain rfl : j = k := by omega
              have C := AsideA.mk (C28b.out wr I.out)
              clear C28b
              go_wp2_with fail
              refine C.out.mono ?_
              rintro e w6 ⟨L2, qs2, rfl, _, _, hb⟩
              have B6 := AsideA.mk (below_call I.out.below hb)
              have T6 := AsideA.mk (I.out.tab.below hb)
              clear hb C
              go_wp2_with fail
              refine (C23.out w6 T6.out).mono ?_
              rintro e w7 ⟨rfl, hq⟩
              have B7 := AsideA.mk (below_call B1.out (below_call B6.out hq))
              clear hq
              go_wp2_with fail
              go_ret
              exact ⟨rfl, B7.out⟩)
end Go.Proofs.YtccmeiflahnleaaDoor.A

