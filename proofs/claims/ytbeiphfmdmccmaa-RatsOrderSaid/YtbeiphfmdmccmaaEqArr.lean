/-
  '==' and '!=' of two arrays whose elements are one cell each. Over any program.
-/
import Derived.Test.YtbeiphfmdmccmaaArr
import Derived.Laws.StructEq
namespace Go.Proofs.Ytbeiphfmdmccmaa.A
set_option linter.unusedVariables false
set_option linter.unusedSimpArgs false
section
variable {P : Program} (w : World)

theorem run_equalIn_arr (d : Nat) (t e : TypeId) (len : Nat) (xs ys : Array Value) (de : TypeDesc) (ht : P.underlying t = some (.array len e)) (he : P.underlying e = some de)
    (hd : (match de with | .struct _ | .array _ _ => true | _ => false) = false) (hi : (P.info? e).map (·.size) = some 1) (f : Nat → Bool)
    (h : ∀ i, i < len → ∃ x y, xs[i]? = some x ∧ ys[i]? = some y ∧ (Op.equalIn d e x y).run P w = .ok (f i) w) :
    (Op.equalIn (d + 1) t (.agg xs) (.agg ys)).run P w = .ok ((List.range len).all f) w := by
  have hagg : (isAgg e).run P w = .ok false w := by
    unfold isAgg
    rw [Sem.run_bind, run_underlying he w]
    cases de <;> simp_all
  have hsz : (sizeOf e).run P w = .ok 1 w := by
    cases hq : P.info? e with
    | none => simp [hq] at hi
    | some i =>
      have hs : i.size = 1 := by simpa [hq] using hi
      simp [sizeOf, typeInfo, hq, hs]
  have hpart : ∀ (cs : Array Value) i v, cs[i]? = some v → (part e cs i).run P w = .ok v w := by
    intro cs i v hv
    simp [part, Sem.run_bind, hagg, hv]
  simp only [Op.equalIn, Sem.run_bind, run_underlying ht, Result.andThen_ok, hsz, Std.Legacy.Range.forIn_eq_forIn_range', Std.Legacy.Range.size, Nat.sub_zero, Nat.add_one_sub_one, Nat.div_one, Nat.mul_one, ← List.range_eq_range']
  have hl : ∀ i, i ∈ List.range len → ∃ x y, xs[i]? = some x ∧ ys[i]? = some y ∧ (Op.equalIn d e x y).run P w = .ok (f i) w := fun i hi => h i (by simpa using hi)
  clear h
  generalize List.range len = l at *
  induction l with
  | nil => simp
  | cons i l ih =>
    obtain ⟨x, y, hx, hy, heq⟩ := hl i (by simp)
    simp only [List.forIn_cons, Sem.run_bind, hpart xs i x hx, hpart ys i y hy, heq, Result.andThen_ok, Sem.run_ite]
    cases hf : f i
    · simp [hf]
    · simp only [Bool.not_true, Bool.false_eq_true, if_false, Sem.run_pure, Result.andThen_ok]
      rw [ih fun j hj => hl j (by simp [hj])]
      simp [hf]
end
end Go.Proofs.Ytbeiphfmdmccmaa.A
