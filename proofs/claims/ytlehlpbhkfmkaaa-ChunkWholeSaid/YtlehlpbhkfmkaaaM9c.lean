/- Maps whose keys are whole numbers, strings or bools. -/
import Derived.Test.YtlehlpbhkfmkaaaM9b
import Derived.MapKept
set_option linter.unusedVariables false
set_option linter.unusedSimpArgs false
namespace Go.Proofs.Ytlehlpbhkfmkaaa.M
open Go.RowKit

def eqK : AV → AV → Option Bool
  | .int k a, .int k' b => if k = k' then some (a == b) else none
  | .str s, .str t => some (s == t)
  | .bool a, .bool b => some (a == b)
  | _, _ => none
def findA (k : AV) : List (AV × AV) → Nat → Option (Option (Nat × AV))
  | [], _ => some none
  | e :: es, i => match eqK k e.1 with
    | some true => some (some (i, e.2))
    | some false => findA k es (i + 1)
    | none => none
/-- A key that a type of this kind has. -/
def keyD : TypeDesc → AV → Bool
  | .int _, .int _ _ => true
  | .string, .str _ => true
  | .bool, .bool _ => true
  | _, _ => false

section
variable {P : Program} {w0 w : World} {g : Gh} {h : AH} {n : Nat → Nat}

theorem sameNow_R {d : TypeDesc} {k k' : AV} {u u' : Value} {b : Bool} (hd : keyD d k = true) (hu : VR g k u) (hu' : VR g k' u') (he : eqK k k' = some b) : Instr.sameNow d u u' = some b := by
  cases k <;> cases k' <;> simp only [eqK] at he <;> try (cases he; done)
  all_goals
    cases d <;> simp only [keyD, Bool.false_eq_true] at hd
    simp only [VR] at hu hu'
    subst hu hu'
    simpa only [Instr.sameNow] using he

theorem findNow_R {d : TypeDesc} {k : AV} {u : Value} (hd : keyD d k = true) (hu : VR g k u) : ∀ {es : List (AV × AV)} {ms : List MapEntry} {i : Nat} {r : Option (Nat × AV)}, ME g es ms → findA k es i = some r →
    (r = none ∧ Instr.findNow d u ms i = some none) ∨ ∃ j v z, r = some (j, v) ∧ Instr.findNow d u ms i = some (some (j, z)) ∧ VR g v z ∧ v.cl = true ∧ i ≤ j ∧ ∃ e m, es[j - i]? = some e ∧ ms[j - i]? = some m ∧ eqK k e.1 = some true ∧ VR g e.1 m.key
  | [], ms, i, r, hm, hf => by
    simp only [ME] at hm
    simp only [findA, Option.some.injEq] at hf
    subst hm hf
    exact .inl ⟨rfl, rfl⟩
  | (k', v) :: es, ms, i, r, hm, hf => by
    simp only [ME] at hm
    obtain ⟨m, ms', rfl, q1, q2, q3, q4, q5⟩ := hm
    simp only [findA] at hf
    cases e : eqK k k' with
    | none => rw [e] at hf; cases hf
    | some b =>
      have hs := sameNow_R hd hu q1 e
      rw [e] at hf
      cases b with
      | true =>
        simp only [Option.some.injEq] at hf; subst hf
        exact .inr ⟨i, v, m.val, rfl, by simp [Instr.findNow, hs], q2, q4, Nat.le_refl _, (k', v), m, by simp, by simp, e, q1⟩
      | false =>
        rcases findNow_R hd hu (i := i + 1) q5 hf with ⟨h1, h2⟩ | ⟨j, v', z, h1, h2, h3, h4, h5, e', m', h6, h7, h8, h9⟩
        · exact .inl ⟨h1, by simp [Instr.findNow, hs, h2]⟩
        · refine .inr ⟨j, v', z, h1, by simp [Instr.findNow, hs, h2], h3, h4, by omega, e', m', ?_, ?_, h8, h9⟩
          · rw [show j - i = (j - (i + 1)) + 1 by omega]; simpa using h6
          · rw [show j - i = (j - (i + 1)) + 1 by omega]; simpa using h7

theorem run_checkKey_n {kt : TypeId} {d : TypeDesc} {k : AV} {u : Value} (hk : P.underlying kt = some d) (hd : keyD d k = true) (hu : VR g k u) (b : Bool) (m : Nat) : (Instr.checkKey b (m + 1) kt u).run P w = .ok () w := by
  cases k <;> cases d <;> simp only [keyD, Bool.false_eq_true] at hd
  all_goals
    simp only [VR] at hu
    subst hu
    simp [Instr.checkKey, run_underlying hk]
theorem run_checkKey_sc {kt : TypeId} {d : TypeDesc} {k : AV} {u : Value} (hk : P.underlying kt = some d) (hd : keyD d k = true) (hu : VR g k u) (b : Bool) : (Instr.checkKey b 10000 kt u).run P w = .ok () w := run_checkKey_n hk hd hu b 9999

theorem run_findKey_sc {kt : TypeId} {d : TypeDesc} {u : Value} {ms : List MapEntry} {r : Option (Nat × Value)} (hk : P.underlying kt = some d) (hf : Instr.findNow d u ms 0 = some r) : (Instr.findKey kt u ms).run P w = .ok r w := by
  simp [Instr.findKey, run_underlying hk, hf]

def entsA (h : AH) : AV → Option (List (AV × AV))
  | .nilm => some []
  | .mp id => match h[id]? with | some (.amap es) => some es | _ => none
  | _ => none
def lookR (z : AV) (ok : Bool) (r : Option (Nat × AV)) : AV :=
  match r with
  | some p => if ok then .tup [p.2, .bool true] else p.2
  | none => if ok then .tup [z, .bool false] else z
def lookV (d : TypeDesc) (z : AV) (ok : Bool) (h : AH) (m k : AV) : Option AV := if keyD d k = true then (entsA h m).bind fun es => (findA k es 0).map (lookR z ok) else none
def lenmV (h : AH) (m : AV) : Option AV := (entsA h m).map fun es => .int .i64 es.length
def mputE (k v : AV) (es : List (AV × AV)) : Option (List (AV × AV)) :=
  match findA k es 0 with
  | some (some p) => some (es.set p.1 (k, v))
  | some none => some (es ++ [(k, v)])
  | none => none
def mputB (k v : AV) : Option Bx → Option Bx
  | some (.amap es) => (mputE k v es).map .amap
  | _ => none
def mputV (d : TypeDesc) (h : AH) (k v : AV) : AV → Option AH
  | .mp id => if keyD d k = true then (mputB k v h[id]?).map fun b => h.set id b else none
  | _ => none

/-- A map, as the machine and memory have it. -/
theorem entsA_R (hi : Inv w0 g h n w) {m : AV} {u : Value} {es : List (AV × AV)} (hu : VR g m u) (he : entsA h m = some es) :
    (u = .map none ∧ es = []) ∨ ∃ id B en clock, m = .mp id ∧ g.bx id = some B ∧ u = .map (some B) ∧ h[id]? = some (.amap es) ∧ w0.heap.size ≤ B ∧ w.heap[B]? = some (.map en clock) ∧ ME g es en.toList ∧ ProtNone g B := by
  cases m <;> simp only [entsA] at he <;> try (cases he; done)
  · simp only [VR] at hu
    cases he
    exact .inl ⟨hu, rfl⟩
  · rename_i id
    simp only [VR] at hu
    obtain ⟨B, hB, rfl⟩ := hu
    cases e : h[id]? with
    | none => rw [e] at he; cases he
    | some b =>
      rw [e] at he
      cases b <;> simp only at he <;> try (cases he; done)
      cases he
      obtain ⟨bv, e1, e2, e3⟩ := hi.rest
      have hlt : id < h.length := (List.getElem?_eq_some_iff.1 e).1
      obtain ⟨B', en, cl, q1, q2, q3, q4, q5⟩ := e2 id _ bv[id] e (by simp [e1, hlt])
      rw [hB] at q1; cases q1
      exact .inr ⟨id, B, en, cl, rfl, hB, rfl, e, q2, q3, q4, q5⟩

theorem look_sound {K : AV → Prop} {t kt et : TypeId} {d : TypeDesc} {z : Value} {za : AV} {ok : Bool} {m k : AV} {um uk : Value} (hi : Inv w0 g h n w) (ht : P.underlying t = some (.map kt et)) (hk : P.underlying kt = some d)
    (hz : ∀ w : World, (zeroValue et).run P w = .ok z w) (hza : VR g za z) (hzc : za.cl = true) (hm : VR g m um) (hu : VR g k uk) {r : AV} (hr : lookV d za ok h m k = some r) (hK : K r) :
    ∃ r z, (Instr.lookup t um uk ok).run P w = .ok z w ∧ VR g r z ∧ r.cl = true ∧ K r := by
  unfold lookV at hr
  split at hr <;> try (cases hr; done)
  rename_i hd
  simp only [Option.bind_eq_some_iff, Option.map_eq_some_iff] at hr
  obtain ⟨es, he, p, hf, rfl⟩ := hr
  have hall : ∃ ms : Array MapEntry, ME g es ms.toList ∧ ∀ (q : Option (Nat × Value)), Instr.findNow d uk ms.toList 0 = some q → (Instr.lookup t um uk ok).run P w = .ok (match q with | some (_, v) => if ok then .tuple #[v, .bool true] else v | none => if ok then .tuple #[z, .bool false] else z) w := by
    rcases entsA_R hi hm he with ⟨rfl, rfl⟩ | ⟨id, B, en, cl, rfl, hB, rfl, h1, h2, h3, h4, h5⟩
    · refine ⟨#[], by simp [ME], fun q hq => ?_⟩
      simp only [Array.toList_empty] at hq
      cases q with
      | none => cases ok <;> simp [Instr.lookup, run_underlying ht, run_checkKey_sc hk hd hu, run_findKey_sc hk hq, hz]
      | some p => cases ok <;> simp [Instr.lookup, run_underlying ht, run_checkKey_sc hk hd hu, run_findKey_sc hk hq]
    · refine ⟨en, h4, fun q hq => ?_⟩
      cases q with
      | none => cases ok <;> simp [Instr.lookup, run_underlying ht, MapKept.run_getObj_map h3, run_checkKey_sc hk hd hu, run_findKey_sc hk hq, hz]
      | some p => cases ok <;> simp [Instr.lookup, run_underlying ht, MapKept.run_getObj_map h3, run_checkKey_sc hk hd hu, run_findKey_sc hk hq]
  obtain ⟨ms, hme, hfin⟩ := hall
  rcases findNow_R hd hu hme hf with ⟨rfl, h2⟩ | ⟨j, v, zz, rfl, h2, h3, h4, _⟩
  · refine ⟨_, _, hfin _ h2, ?_, ?_, hK⟩
    · cases ok <;> simp only [lookR, Bool.false_eq_true, if_false, if_true]
      · exact hza
      · simp only [VR]; exact ⟨_, rfl, by simp [VL, VR, hza]⟩
    · cases ok <;> simp only [lookR, Bool.false_eq_true, if_false, if_true, AV.cl, clL, hzc]; rfl
  · refine ⟨_, _, hfin _ h2, ?_, ?_, hK⟩
    · cases ok <;> simp only [lookR, Bool.false_eq_true, if_false, if_true]
      · exact h3
      · simp only [VR]; exact ⟨_, rfl, by simp [VL, VR, h3]⟩
    · cases ok <;> simp only [lookR, Bool.false_eq_true, if_false, if_true, AV.cl, clL, h4]; rfl

theorem ME.length : ∀ {es : List (AV × AV)} {ms : List MapEntry}, ME g es ms → ms.length = es.length
  | [], ms, h => by simp only [ME] at h; simp [h]
  | (k, v) :: es, ms, h => by
    simp only [ME] at h
    obtain ⟨m, ms', rfl, _, _, _, _, q5⟩ := h
    simp [ME.length q5]

theorem lenm_sound {K : AV → Prop} {t ty kt et : TypeId} {m : AV} {um : Value} (hi : Inv w0 g h n w) (ht : P.underlying t = some (.map kt et)) (hm : VR g m um) {r : AV} (hr : lenmV h m = some r) (hK : K r) :
    ∃ r z, (Builtin.len_ #[t] ty #[um]).run P w = .ok z w ∧ VR g r z ∧ r.cl = true ∧ K r := by
  simp only [lenmV, Option.map_eq_some_iff] at hr
  obtain ⟨es, he, rfl⟩ := hr
  rcases entsA_R hi hm he with ⟨rfl, rfl⟩ | ⟨id, B, en, cl, rfl, hB, rfl, h1, h2, h3, h4, h5⟩
  · exact sc_int hK (by simp [Builtin.len_, run_underlying ht, goInt])
  · have hl := h4.length
    rw [Array.length_toList] at hl
    exact sc_int hK (by simp [Builtin.len_, run_underlying ht, MapKept.run_getObj_map h3, goInt, hl])
end
end Go.Proofs.Ytlehlpbhkfmkaaa.M
