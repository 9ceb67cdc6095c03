/-
  The laws' put (32).
-/
import Derived.Test.YtccmeiflahnleaaDoorK2
namespace Go.Proofs.YtccmeiflahnleaaDoor.A
set_option linter.unusedVariables false
set_option linter.unusedSimpArgs false
open Go.RowKit

theorem info3 : (Tryd.prog.info? 3).map (fun i => (i.zero, i.size, i.bytes)) = some (some (.int .i64 0), 1, 8) := by kernel_rfl
def encI (ns : List Nat) : List Value := ns.map fun (n : Nat) => Value.int .i64 (n : Int)
theorem encI_append (a b : List Nat) : encI (a ++ b) = encI a ++ encI b := List.map_append
theorem encI_len (a : List Nat) : (encI a).length = a.length := List.length_map _
def endsL (ls : List (List Nat)) : List Nat := (frs 0 ls).map (·.2)
theorem endsL_snoc (ls : List (List Nat)) (b : List Nat) : endsL (ls ++ [b]) = endsL ls ++ [(cat (ls ++ [b])).length] := by
  unfold endsL
  rw [frs_snoc, List.map_append, cat_snoc, List.length_append, Nat.zero_add]
  rfl
theorem endsL_len (ls : List (List Nat)) : (endsL ls).length = ls.length := by
  unfold endsL
  rw [List.length_map, frs_len]
/-- all bytes put so far: none, or in a block of their own -/
def PutB (w wr : World) (B : Option Addr) (bs : List Nat) : Prop := (bs = [] ∧ B = none) ∨ ∃ g cap, B = some ⟨g, 0, none⟩ ∧ Fill w wr g cap bs
theorem PutB.bytes {w wr : World} {B : Option Addr} {bs : List Nat} (h : PutB w wr B bs) (hs : ∀ b ∈ bs, b < 256) (hl : bs.length ≤ 100000) : Bytes wr B bs := by
  rcases h with ⟨rfl, rfl⟩ | ⟨g, cap, rfl, F⟩
  · exact ⟨Reads.nil, by simp, by decide⟩
  · exact F.bytes_ hs hl
theorem PutB.later {w wr wz : World} {B : Option Addr} {bs : List Nat} (h : PutB w wr B bs) (k : Below wr.heap.size wr wz) : PutB w wz B bs := by
  rcases h with h | ⟨g, cap, e, F⟩
  · exact .inl h
  · exact .inr ⟨g, cap, e, F.later k⟩
theorem cat_bytes {ls : List (List Nat)} (h : ∀ b ∈ ls, ∀ x ∈ b, x < 256) : ∀ x ∈ cat ls, x < 256 := by
  intro x hx
  unfold cat at hx
  obtain ⟨l, hl, hx⟩ := List.mem_flatten.1 hx
  obtain ⟨b, hb, rfl⟩ := List.mem_map.1 hl
  refine withSum_small (fun y hy => ?_) x hx
  rcases List.mem_append.1 hy with hy | hy
  · exact numL_bytes _ y hy
  · exact h b hb y hy

/-- what put hands back -/
def PutRet (w : World) (ls : List (List Nat)) (e : Ending) (w' : World) : Prop := ∃ B m E ce k, e = .returned (.tuple #[.slice B m m, .slice E k ce]) ∧ m = (cat ls).length ∧ k = ls.length ∧ PutB w w' B (cat ls) ∧ w'.ownsRow w.heap.size 3 1 (.slice E k ce) k (encI (endsL ls)) ∧ Below w.heap.size w w'

/-- between two rounds -/
structure PR (w wr : World) (ls : List (List Nat)) (B : Option Addr) (m : Nat) (E : Option Addr) (k ce : Nat) : Prop where
  put : PutB w wr B (cat ls)
  own : wr.ownsRow w.heap.size 3 1 (.slice E k ce) k (encI (endsL ls))
  below : Below w.heap.size w wr
  m : m = (cat ls).length
  k : k = ls.length
theorem PR.step {w wr w1 w2 : World} {ls : List (List Nat)} {b : List Nat} {B E E2 : Option Addr} {m k ce ce2 g cap : Nat} (h : PR w wr ls B m E k ce) (F : Fill wr w1 g cap (cat ls ++ frameP b)) (u : World) (hu : u = w1.alloc (.cells #[.int .i64 ((cat ls ++ frameP b).length : Int)] 3 (0, 0)))
    (o2 : w2.ownsRow w.heap.size 3 1 (.slice E2 (k + 1) ce2) (k + 1) (encI (endsL ls) ++ [.int .i64 ((cat ls ++ frameP b).length : Int)])) (G : u.grownBy w2 (Value.slice E k ce).ownBlock) :
    PR w w2 (ls ++ [b]) (some ⟨g, 0, none⟩) (cat ls ++ frameP b).length E2 (k + 1) ce2 := by
  have hu1 : Below w1.heap.size w1 u := by rw [hu]; exact (Below.refl _ _).alloc (Nat.le_refl _) _
  have hL := own_below (own_below h.own F.below) hu1
  have hb2 : Below w.heap.size w u := below_call (below_call h.below F.below) hu1
  have hbz := below_grown hb2 hb2.size hL G
  have e1 : cat (ls ++ [b]) = cat ls ++ frameP b := cat_snoc b ls
  refine ⟨.inr ⟨g, cap, rfl, ⟨?_, ?_, hbz⟩⟩, ?_, hbz, by rw [e1], by rw [List.length_append, ← h.k]; rfl⟩
  · obtain ⟨t, h1, h2⟩ := F.blk
    have h3 := blk_below h1 hu1
    rw [e1]
    exact ⟨t, (G.block g (blk_lt h3) (own_ne hL h3 (by decide))).trans h3, h2⟩
  · have := F.ge
    have := h.below.size
    omega
  · rw [endsL_snoc, e1, encI_append]
    exact o2

set_option maxHeartbeats 8000000 in
set_option maxRecDepth 100000 in
theorem xput_all (A : Option Addr) (n c : Nat) (ps : List Part) (w : World) (T : TabAt w) (RA : Reads w A (enc22 ps)) (PA : ∀ p ∈ ps, Bytes w p.A p.bs) (hn : n = ps.length) (S : Small (ps.map (·.bs))) : Calls Tryd.prog 32 #[.slice A n c] w (PutRet w (ps.map (·.bs))) := by
  have HA := AsideA.mk RA
  have HP := AsideA.mk PA
  have HT := AsideA.mk T
  have HS := AsideA.mk S
  have HN := AsideA.mk hn
  have hn3 : (n : Int) ≤ 3000 := by
    have := tot_count (ps.map (·.bs))
    have := S.2
    rw [List.length_map] at *
    omega
  have I0 : AsideA (PR w w ((ps.map (·.bs)).take 0) none 0 none 0 0) := ⟨⟨.inl ⟨rfl, rfl⟩, own_nil _ _ _ _, Below.refl _ _, rfl, rfl⟩⟩
  clear RA hn PA T S
  go_enter Tryd.func32, Tryd.ntmps32
  go_wp2
  go_loopw [4, 5, 6] (fun b l i wr => ∃ (k m ke ce : Nat) (B E : Option Addr), k ≤ n ∧ i = .int .i64 k ∧ b = .slice B m m ∧ l = .slice E ke ce ∧ (ke : Int) ≤ 3000 ∧ AsideA (PR w wr ((ps.map (·.bs)).take k) B m E ke ce)) (fun _ _ i _ => n - (intOf i).toNat)
  case atStart => exact ⟨0, 0, 0, 0, none, none, by omega, rfl, rfl, rfl, by omega, I0⟩
  case round =>
    obtain ⟨k, m, ke, ce, B, E, hk, rfl, rfl, rfl, hke, I⟩ := hrel
    clear I0
    by_cases hlt : k < n
    · obtain ⟨p, hp⟩ : ∃ p, ps[k]? = some p := ⟨ps[k]'(by have := HN.out; omega), List.getElem?_eq_getElem _⟩
      obtain ⟨g, off, rfl, hc⟩ := part_cell HA.out k p hp
      have c0 := hc wr I.out.below
      have hps : (ps.map (·.bs)).take (k + 1) = (ps.map (·.bs)).take k ++ [p.bs] := by
        rw [List.take_add_one, List.getElem?_map, hp]
        rfl
      have hle : p.bs.length ≤ 8192 := HS.out.1 _ (List.mem_map.2 ⟨p, List.mem_of_getElem? hp, rfl⟩)
      have hct : (cat ((ps.map (·.bs)).take k)).length ≤ 20000 := by
        have h1 := cat_len ((ps.map (·.bs)).take k) (fun b hb => HS.out.1 b (List.mem_of_mem_take hb))
        have h2 := tot_append ((ps.map (·.bs)).take k) ((ps.map (·.bs)).drop k)
        rw [List.take_append_drop] at h2
        have := HS.out.2
        omega
      have BB : Bytes wr B (cat ((ps.map (·.bs)).take k)) := I.out.put.bytes (cat_bytes (fun b hb => by
        obtain ⟨q, hq, rfl⟩ := List.mem_map.1 (List.mem_of_mem_take hb)
        exact (HP.out q hq).small)) (by omega)
      have C24 := AsideA.mk (xframe B p.A m p.c (cat ((ps.map (·.bs)).take k)) p.bs wr BB ((HP.out p (List.mem_of_getElem? hp)).below I.out.below) (HT.out.below I.out.below) (by omega) hle)
      rw [← I.out.m] at C24
      have ST := AsideA.mk (fun (w1 w2 : World) (E2 : Option Addr) (ce2 gg cap : Nat) (F : Fill wr w1 gg cap (cat ((ps.map (·.bs)).take k) ++ frameP p.bs)) => I.out.step (w2 := w2) (E2 := E2) (ce2 := ce2) F)
      rw [hps.symm] at ST
      have HK : AsideA (ke = ((ps.map (·.bs)).take k).length) := ⟨I.out.k⟩
      have NB : AsideA ((cat ((ps.map (·.bs)).take k) ++ frameP p.bs).length ≤ 100000) := ⟨by
        have := numL_len 1 p.bs.length (by omega)
        rw [List.length_append, frameP_len]
        omega⟩
      obtain ⟨nall, hnall⟩ : ∃ nall, nall = (cat ((ps.map (·.bs)).take k) ++ frameP p.bs).length := ⟨_, rfl⟩
      rw [← hnall] at C24 ST NB
      obtain ⟨pl, hpl⟩ : ∃ pl, pl = p.bs.length := ⟨_, rfl⟩
      rw [← hpl] at C24 c0
      clear hc hp hps hle hct BB hpl hnall
      go_wp2_with (first
        | (go_at_call 24; go_loud (refine C24.out.mono ?_; rintro e w1 ⟨gg, cap, rfl, F⟩; have FF := AsideA.mk F; clear F))
        | ((with_reducible refine gate (N := 26) rfl ?_); go_loud (refine append_own _ 46 _ _ rfl rfl w.heap.size 3 _ 1 8 Tryd.underlying46 info3 rfl (by decide) (.slice E ke ce) ke (encI (endsL ((ps.map (·.bs)).take k))) rfl (own_alloc (own_below I.out.own FF.out.below) _) (some ⟨w1.heap.size, 0, none⟩) 1 1 [.int .i64 (nall : Int)] rfl rfl (reads_built w1 3 [.int .i64 (nall : Int)]) (by simp [Value.oneCell']) (by simp only [maxLen]; omega) (by omega) (by have := (below_call I.out.below FF.out.below).size; simp; omega) ?_; intro v2 w2 o2 g2 p2; obtain ⟨E2, ce2, e2⟩ := own_form o2; subst e2; have Z := AsideA.mk (ST.out w1 w2 E2 ce2 gg cap FF.out _ rfl o2 g2); clear o2 g2 p2)))
      refine ⟨⟨k + 1, nall, ke + 1, ce2, some ⟨gg, 0, none⟩, E2, by omega, by go_num, rfl, rfl, by have h1 := HK.out; rw [List.length_take] at h1; omega, Z⟩, ?_⟩
      simp [intOf]
      omega
    · have e1 : (ps.map (·.bs)).take k = ps.map (·.bs) := List.take_of_length_le (by rw [List.length_map]; have := HN.out; omega)
      have R := I.out
      rw [e1] at R
      have F : AsideA (PutRet w (ps.map (·.bs)) (.returned (.tuple #[.slice B m m, .slice E ke ce])) wr) := ⟨⟨B, m, E, ce, ke, rfl, R.m, R.k, R.put, R.own, R.below⟩⟩
      clear R e1
      go_wp2
      go_ret2
      exact F.out
end Go.Proofs.YtccmeiflahnleaaDoor.A

