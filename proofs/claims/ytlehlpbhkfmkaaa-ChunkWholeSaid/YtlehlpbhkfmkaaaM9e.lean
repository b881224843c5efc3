/- == of structs whose fields are whole numbers, strings, bools. -/
import Derived.Test.YtlehlpbhkfmkaaaM9d
import Derived.Laws.StructEq
set_option linter.unusedVariables false
set_option linter.unusedSimpArgs false
namespace Go.Proofs.Ytlehlpbhkfmkaaa.M
open Go.RowKit

def eqI (cs ds : List AV) : List (Nat × TypeDesc) → Option Bool
  | [] => some true
  | p :: r => match cs[p.1]?, ds[p.1]? with
    | some a, some b => if keyD p.2 a = true then (match eqK a b with | some true => eqI cs ds r | some false => some false | none => none) else none
    | _, _ => none
def eqsV (neg : Bool) (idx : List (Nat × TypeDesc)) : AV → AV → Option AV
  | .agg cs, .agg ds => (eqI cs ds idx).map fun b => .bool (b != neg)
  | _, _ => none
def leafD : TypeDesc → Bool
  | .int _ | .bool | .string => true
  | _ => false
def leafP (P : Program) (f : Field) : Option (Nat × TypeDesc) :=
  match P.underlying f.type with
  | some d => if f.name ≠ "_" ∧ leafD d = true then some (f.offset, d) else none
  | none => none
def eqOffs (P : Program) (t : TypeId) : Option (List (Nat × TypeDesc)) :=
  match P.underlying t with
  | some (.struct fs) => if P.stoodInHeld t = false ∧ P.eqGuardType P.depth t = false then fs.toList.mapM (leafP P) else none
  | _ => none

section
variable {P : Program} {w0 w : World} {g : Gh} {h : AH} {n : Nat → Nat} {σ : List AV} {a : Act}

theorem eqK_run {d : TypeDesc} {t : TypeId} {x y : AV} {u v : Value} {b : Bool} (hd : keyD d x = true) (ht : P.underlying t = some d) (hx : VR g x u) (hy : VR g y v) (he : eqK x y = some b) (m : Nat) : (Op.equalIn (m + 1) t u v).run P w = .ok b w := by
  cases x <;> cases y <;> simp only [eqK] at he <;> try (cases he; done)
  all_goals
    cases d <;> simp only [keyD, Bool.false_eq_true] at hd
    simp only [VR] at hx hy
    subst hx hy
  · split at he <;> cases he
    rename_i hk
    subst hk
    exact run_equalIn_int w _ _ _ _ _ _ ht
  · cases he; exact run_equalIn_bool' w _ _ _ _ ht
  · cases he; rw [run_equalIn_string w _ _ _ _ ht, ← beq_toListBytes]

theorem leaf_part {t : TypeId} {d : TypeDesc} {xs : Array Value} {off : Nat} {v : Value} (ht : P.underlying t = some d) (hl : leafD d = true) (hv : xs[off]? = some v) : (part t xs off).run P w = .ok v w := by
  cases d <;> simp only [leafD, Bool.false_eq_true] at hl
  all_goals simp [part, isAgg, run_underlying ht, hv]

theorem eqFields_R {cs ds : List AV} {xs ys : Array Value} (hx : VL g cs xs.toList) (hy : VL g ds ys.toList) (m : Nat) : ∀ {fs : List Field} {idx : List (Nat × TypeDesc)} {b : Bool}, fs.mapM (leafP P) = some idx → eqI cs ds idx = some b → (Op.eqFields (m + 1) xs ys fs).run P w = .ok b w
  | [], idx, b, hm, he => by
    simp only [List.mapM_nil, Option.pure_def, Option.some.injEq] at hm; subst hm
    simp only [eqI, Option.some.injEq] at he; subst he
    simp [Op.eqFields]
  | f :: fs, idx, b, hm, he => by
    simp only [List.mapM_cons, Option.pure_def, Option.bind_eq_bind, Option.bind_eq_some_iff, Option.some.injEq] at hm
    obtain ⟨p, hp, idx', hi, rfl⟩ := hm
    unfold leafP at hp
    split at hp <;> try (cases hp; done)
    rename_i d hd
    split at hp <;> cases hp
    rename_i hc
    simp only [eqI] at he
    split at he <;> try (cases he; done)
    rename_i x y hcx hcy
    split at he <;> try (cases he; done)
    rename_i hk
    obtain ⟨u, hu, vx⟩ := VL.get hx hcx
    obtain ⟨v, hv, vy⟩ := VL.get hy hcy
    have pu := leaf_part (w := w) hd hc.2 (xs := xs) (off := f.offset) (v := u) (by simpa using hu)
    have pv := leaf_part (w := w) hd hc.2 (xs := ys) (off := f.offset) (v := v) (by simpa using hv)
    simp only [Op.eqFields, if_pos hc.1, Sem.run_bind, pu, pv, Result.andThen_ok]
    split at he <;> try (cases he; done)
    · rename_i hq
      rw [eqK_run hk hd vx vy hq]
      simp only [Result.andThen_ok, Bool.not_true, Bool.false_eq_true, if_false]
      exact eqFields_R hx hy m hi he
    · rename_i hq
      rw [eqK_run hk hd vx vy hq]
      cases he
      simp

theorem eqs_sound {o : Oper} {K : List AV → AH → Prop} {Q : Exit → Act → World → Prop} {op : BinOp} {neg : Bool} {t u : TypeId} {x y : Operand} {x' y' : Opd} {idx : List (Nat × TypeDesc)} (hop : o.op = .binOp op t x y u) (hn : op = if neg then .neq else .eql)
    (hx : compO x = some x') (hy : compO y = some y') (ht : eqOffs P t = some idx) (hs : SR w0 g n σ h a w) {v : AV} (hv : eqsV neg idx (evalO σ x') (evalO σ y') = some v) (hk : K (putA σ o.dst v) h) : o.wp P a w (OpPost w0 g n w K) Q := by
  have vx := compO_VR (a := a) hs.vl hx
  have vy := compO_VR (a := a) hs.vl hy
  generalize evalO σ x' = p at *
  generalize evalO σ y' = q at *
  cases p <;> cases q <;> simp only [eqsV] at hv <;> try (cases hv; done)
  rename_i cs ds
  simp only [Option.map_eq_some_iff] at hv
  obtain ⟨b, hb, rfl⟩ := hv
  simp only [VR] at vx vy
  obtain ⟨xs, hxs, lx, _⟩ := vx
  obtain ⟨ys, hys, ly, _⟩ := vy
  unfold eqOffs at ht
  split at ht <;> try (cases ht; done)
  rename_i fs hfs
  split at ht <;> try (cases ht; done)
  rename_i hc
  have hf : P.fieldsOf t = fs := by unfold Program.fieldsOf; rw [hfs]
  have hrun : (Op.equalIn 10000 t (.agg xs) (.agg ys)).run P w = .ok b w := by
    show (Op.equalIn (9999 + 1) t (.agg xs) (.agg ys)).run P w = .ok b w
    rw [run_equalIn_struct w 9999 t xs ys (by rw [hf]; exact hfs) hc.1, hf]
    exact eqFields_R lx ly 9998 ht hb
  have hg := run_eqGuard_agg (P := P) w op t x y xs ys hc.2
  refine op_value hs (v := .bool (b != neg)) (u := .bool (b != neg)) ?_ (by simp [VR]) rfl hk
  cases neg <;> subst hn <;> simp only [Bool.false_eq_true, if_false, if_true] at hg ⊢
  · have := run_eql_struct (P := P) w t xs ys
    rw [hrun] at this
    simp [execOp, hop, hxs, hys, hg, this]
  · have := run_neq_struct (P := P) w t xs ys
    rw [hrun] at this
    simp [execOp, hop, hxs, hys, hg, this]
end
end Go.Proofs.Ytlehlpbhkfmkaaa.M
