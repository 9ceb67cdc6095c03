/-
  The same law with a word on the world that hangs on which operations have been done (l).
-/
import Derived.Test.YtjopmkfpghdlpaaReg
namespace Go.Proofs.Ytjopmkfpghdlpaa.A
set_option linter.unusedVariables false
set_option linter.unusedSimpArgs false
section
variable {P : Program} {ops : Array Oper} {Q : Exit → Act → World → Prop}

def allG (P : Program) (F : Act) (n : Nat) (I : Array Bool → World → Prop) : Nat → List Oper → Prop
  | _, [] => True
  | i, o :: r => (∀ l w, l.size = n → l.getD i false = false → (∀ j ∈ needs o, l.getD j false = true) → I l w → opOk P F o w (I (l.setIfInBounds i true))) ∧ allG P F n I (i + 1) r

theorem allG_at {F : Act} {n : Nat} {I : Array Bool → World → Prop} : ∀ {q : List Oper} {k : Nat}, allG P F n I k q → ∀ (i : Nat) (o : Oper), q[i]? = some o → ∀ l w, l.size = n → l.getD (k + i) false = false → (∀ j ∈ needs o, l.getD j false = true) → I l w → opOk P F o w (I (l.setIfInBounds (k + i) true))
  | [], _, _, i, o, h => by simp at h
  | p :: r, k, h, i, o, ho => by
    cases i with
    | zero =>
      simp at ho
      subst ho
      exact h.1
    | succ i =>
      have := allG_at h.2 i o (by simpa using ho)
      rwa [show k + 1 + i = k + (i + 1) by omega] at this

theorem wpAny_listed {F : Act} {I : Array Bool → World → Prop} {n : Nat} {ds : List Nat} (hn : F.tmps.size = n) (hc : chk ops n ds = true) (hall : allG P F ops.size I 0 ops.toList)
    (hend : ∀ l w, (∀ i, i < ops.size → l.getD i false = true) → I l w → Q .normal F w) :
    ∀ (fuel : Nat) (l : Array Bool) (a : Act) (w : World), l.size = ops.size → l.toList.count false ≤ fuel → Stands ops F l a →
      I l w →
      wpAny P .any ops Q fuel l a w := by
  simp only [chk, Bool.and_eq_true, List.all_eq_true, List.mem_range] at hc
  obtain ⟨⟨⟨hsel, hops⟩, _⟩, hlast⟩ := hc
  have hfin : ∀ (l : Array Bool) (a : Act) (w : World), l.size = ops.size → Stands ops F l a → (∀ i, i < ops.size → l.getD i false = true) → I l w → Q .normal a w := by
    intro l a w hs hst hd hJ
    have ha : a = F := by
      obtain ⟨h1, h2, h3⟩ := hst
      cases a; cases F
      simp only at h1 h2 h3
      congr 1
      · exact Array.ext_getElem? fun s => h3 s fun i hi => by
          by_cases hlt : i < ops.size
          · exact hd i hlt
          · simp [dstAt, Array.getElem?_eq_none (Nat.le_of_not_lt hlt)] at hi
    exact ha ▸ hend l w hd hJ
  have hrd : ∀ l', Region.ready .any ops l' = [] → l'.size = ops.size → ∀ i, i < ops.size → l'.getD i false = true := fun l' h1 h2 => all_listed (fun i o ho j hj => by
    have := hops i (Array.getElem?_eq_some_iff.1 ho).1
    rw [ho] at this
    simp only [Bool.and_eq_true, List.all_eq_true] at this
    simpa using this.2 j hj) h1 h2
  have hpos : 0 < ops.size := by
    rcases Nat.eq_zero_or_pos ops.size with h0 | h0
    · rw [Array.getElem?_eq_none (by omega)] at hlast; simp at hlast
    · exact h0
  intro fuel
  induction fuel with
  | zero =>
    intro l a w hs hcount hst hI
    have hd : ∀ i, i < ops.size → l.getD i false = true := by
      intro i hi
      have : l[i]'(by omega) = true := by
        cases hb : l[i]'(by omega) with
        | true => rfl
        | false =>
          have : false ∈ l.toList := by rw [← hb]; simp
          have := List.count_pos_iff.2 this
          omega
      simp [hs, hi, this]
    refine ⟨?_, hfin l a w hs hst hd hI⟩
    unfold Region.ready
    rw [List.filter_eq_nil_iff]
    intro i hi
    have h := hd i (by simpa using hi)
    have hi' : i < l.size := by rw [hs]; simpa using hi
    have : l[i] = true := by simpa [hi'] using h
    simp [hi', this]
  | succ fuel ih =>
    intro l a w hs hcount hst hI
    refine ⟨fun h0 => ?_, fun i hi => ?_⟩
    · have hd := hrd l h0 hs
      exact hfin l a w hs hst hd hI
    · obtain ⟨o, ho, hlt, hl0, hneed⟩ := ready_iff hi
      have hil : i < l.size := by omega
      have hli : l[i] = false := by simpa [hil] using hl0
      have hopi := hops i hlt
      rw [ho] at hopi
      simp only [Bool.and_eq_true, Option.isNone_iff_eq_none, List.all_eq_true, List.mem_range] at hopi
      obtain ⟨⟨⟨⟨hg, hdn⟩, hrds⟩, hdist⟩, hback⟩ := hopi
      -- what it reads stands as in the end
      have hev : execOp a.eval o = execOp F.eval o := by
        refine execOp_congr o (Region.noSelect_spec hsel i o · · ho) fun x hx => ?_
        cases x with
        | tmp t =>
          have ht : t ∈ reads o := List.mem_filterMap.2 ⟨.tmp t, by simpa using hx, rfl⟩
          have := hst.2.2 t fun j hj => by
            by_cases hjl : j < ops.size
            · have hq := hrds t ht j hjl
              rw [hj] at hq
              simp at hq
              exact hneed j (by simpa using hq)
            · simp [dstAt, Array.getElem?_eq_none (Nat.le_of_not_lt hjl)] at hj
          simp only [Act.eval, Array.getD_eq_getD_getElem?, this]
        | _ => rfl
      have hw : Region.wanted o (yielded ops a.tmps) = true := by simp [Region.wanted, hg]
      have hli' : l.getD i false = false := by simp [hil, hli]
      have hok := allG_at hall i o (by simpa using ho) l w hs (by rw [Nat.zero_add]; exact hli') hneed hI
      rw [Nat.zero_add] at hok
      unfold Go.wpOp
      simp only [ho, hw, if_true]
      refine .inl (upon_false ?_)
      unfold opOk Oper.wp at hok
      unfold Oper.wp
      rw [hev]
      -- the same run; what is put into a stands where F stands
      have key : ∀ v w', (F.put o.dst v = F ∧ I (l.setIfInBounds i true) w') → wpAny P .any ops Q fuel (l.setIfInBounds i true) (a.put o.dst v) w' := by
        rintro v w' ⟨hF, hIJ⟩
        refine ih _ _ _ (by simpa using hs) ?_ ?_ hIJ
        · have h1 : l.toList.count false = (l.setIfInBounds i true).toList.count false + 1 := by
            rw [Array.toList_setIfInBounds]
            have hsplit : l.toList = l.toList.take i ++ false :: l.toList.drop (i + 1) := by
              rw [← hli]
              have := List.take_append_drop i l.toList
              rw [List.drop_eq_getElem_cons (by simpa using hil)] at this
              simpa using this.symm
            have hset : l.toList.set i true = l.toList.take i ++ true :: l.toList.drop (i + 1) := by
              rw [List.set_eq_take_append_cons_drop, if_pos (by simpa using hil)]
            rw [hset]
            conv => lhs; rw [hsplit]
            simp
            omega
          omega
        · obtain ⟨h1, h2, h3⟩ := hst
          cases hd : o.dst with
          | none =>
            refine ⟨h1, h2, fun s hsx => h3 s fun j hj => ?_⟩
            have := hsx j hj
            by_cases hji : j = i
            · subst hji
              simp [dstAt, ho, hd] at hj
            · rwa [getD_set_ne false (Ne.symm hji)] at this
          | some d =>
            refine ⟨h1, by simpa [Act.put] using h2, fun s hsx => ?_⟩
            by_cases hsd : s = d
            · subst hsd
              have hdn' : s < n := by simpa [hd] using hdn
              rw [hd] at hF
              have hF' := congrArg (fun b : Act => b.tmps[s]?) hF
              simp only [Act.put] at hF' ⊢
              rw [Array.getElem?_setIfInBounds_self_of_lt (by omega)] at hF'
              rw [Array.getElem?_setIfInBounds_self_of_lt (by omega)]
              exact hF'
            · simp only [Act.put]
              rw [Array.getElem?_setIfInBounds_ne (Ne.symm hsd)]
              refine h3 s fun j hj => ?_
              have := hsx j hj
              by_cases hji : j = i
              · subst hji
                simp [dstAt, ho, hd] at hj
                exact absurd hj.symm hsd
              · rwa [getD_set_ne false (Ne.symm hji)] at this
      generalize (execOp F.eval o).run P w = r at hok ⊢
      cases r with
      | ok nx w' =>
        cases nx with
        | value v => exact key _ _ hok
        | skip => exact key _ _ hok
        | «defer» d =>
          simp only [Oper.upon] at hok ⊢
          have := congrArg Act.defers hok.1
          have hlen := congrArg List.length this
          cases hd : o.dst <;> simp [Act.put, hd] at hlen
        | enter f args =>
          simp only [Oper.upon] at hok ⊢
          exact Calls.mono hok (fun e w'' he => by cases e <;> first | exact key _ _ he | exact he)
        | row row args =>
          simp only [Oper.upon] at hok ⊢
          exact Rows.mono hok (fun _ _ he => key _ _ he)
        | _ => exact hok
      | halt x w' => cases x <;> exact hok

/-- THE LAW, with a word that hangs on what has been done. -/
theorem region_listed {id : Nat} {a : Act} {w : World} (hm : P.follows .mixedOrders = true) (ds : List Nat) (vals : List (Nat × Value)) (hds : vals.map Prod.fst = ds)
    (F : Act) (hF : actPuts a vals = F) (n : Nat) (hn : a.tmps.size = n)
    (hc : chk ops n ds = true) (I : Array Bool → World → Prop) (hI : ∀ l, (∀ i, l.getD i false = false) → I l w.drew) (hall : allG P F ops.size I 0 ops.toList)
    (hend : ∀ l w', (∀ i, i < ops.size → l.getD i false = true) → I l w' → Q .normal F w') : (Code.region id ops true).wp P Q a w := by
  subst hn
  rw [actPuts_eq] at hF
  subst hF
  refine wp_region_any hm ?_
  refine wpAny_listed (n := a.tmps.size) (ds := ds) (puts_size vals a.tmps) hc hall hend ops.size _ a _ (by simp) (by simp) ⟨rfl, (puts_size vals a.tmps).symm, fun s hs => ?_⟩ (hI _ fun i => ?_)
  · refine (puts_other vals a.tmps fun hmem => ?_).symm
    rw [hds] at hmem
    simp only [chk, Bool.and_eq_true, List.all_eq_true, List.any_eq_true, List.mem_range] at hc
    obtain ⟨j, hj, he⟩ := hc.1.2 s hmem
    have := hs j (by simpa using he)
    simp [hj] at this
  · simp only [Array.getD_eq_getD_getElem?, Array.getElem?_replicate]
    split <;> rfl
end
end Go.Proofs.Ytjopmkfpghdlpaa.A
