/- Arguments: flat structs and arrays of whole numbers. -/
import Derived.Test.YtlcflpanellbfaaGreatDoorM18
import Derived.OpenShut
set_option linter.all false
namespace Go.Proofs.YtlcflpanellbfaaGreatDoor.M
open Go.RowKit Go.ChangeShapes Go.WideShapes

variable {P : Program} {w : World}

theorem ints_of {k : IntKind} : ∀ {cs : List Value}, (∀ i, i < cs.length → ∃ n, cs[i]? = some (.int k n) ∧ (Lit.int k n).wf = true) → ∃ zs : List Int, cs = zs.map (Value.int k) ∧ ∀ z ∈ zs, (Lit.int k z).wf = true
  | [], _ => ⟨[], rfl, by simp⟩
  | c :: cs, h => by
    obtain ⟨n, h1, h2⟩ := h 0 (by simp)
    simp at h1; subst h1
    obtain ⟨zs, rfl, hz⟩ := ints_of (cs := cs) fun i hi => by
      obtain ⟨m, q1, q2⟩ := h (i + 1) (by simpa using hi)
      exact ⟨m, by simpa using q1, q2⟩
    exact ⟨n :: zs, rfl, fun z hz' => (List.mem_cons.1 hz').elim (fun e => e ▸ h2) (hz z)⟩
theorem VL_ints {g : Gh} {k : IntKind} : ∀ (zs : List Int), VL g (zs.map (AV.int k)) (zs.map (Value.int k)) ∧ clL (zs.map (AV.int k)) = true ∧ onesL (zs.map (AV.int k)) = true
  | [] => ⟨by simp [VL], rfl, rfl⟩
  | z :: zs => by
    obtain ⟨h1, h2, h3⟩ := VL_ints (g := g) (k := k) zs
    exact ⟨by simp only [List.map_cons, VL]; exact ⟨_, _, rfl, by simp [VR], h1⟩, by simp only [List.map_cons, clL, h2]; rfl, by simp only [List.map_cons, onesL, h3]; rfl⟩

/-- Each field a whole number. -/
def flatI (P : Program) (k : IntKind) : Nat → List Field → Bool
  | _, [] => true
  | i, f :: fs => (match P.underlying f.type with | some (.int k') => k' == k | _ => false) && (f.offset == i) && (P.cellsOf f.type == 1) && flatI P k (i + 1) fs
theorem flatI_get {k : IntKind} : ∀ {i : Nat} {fs : List Field}, flatI P k i fs = true → ∀ j f, fs[j]? = some f → P.underlying f.type = some (.int k) ∧ f.offset = i + j ∧ P.cellsOf f.type = 1
  | i, [], _, j, f, hf => by simp at hf
  | i, f' :: fs, h, j, f, hf => by
    simp only [flatI, Bool.and_eq_true, beq_iff_eq] at h
    obtain ⟨⟨⟨h1, h2⟩, h3⟩, h4⟩ := h
    cases j with
    | zero =>
      simp at hf; subst hf
      refine ⟨?_, by omega, h3⟩
      split at h1
      · rename_i k' hk; rw [hk]; simp at h1; rw [h1]
      · cases h1
    | succ j =>
      obtain ⟨q1, q2, q3⟩ := flatI_get h4 j f (by simpa using hf)
      exact ⟨q1, by omega, q3⟩

theorem Rd.structI {t : TypeId} {fs : Array Field} {k : IntKind} (ht : P.underlying t = some (.struct fs)) (hf : flatI P k 0 fs.toList = true) (hS : P.cellsOf t = fs.size) :
    Rd P w t (fun xs => ∃ zs : List Int, xs = zs.map (AV.int k) ∧ zs.length = fs.size ∧ ∀ z ∈ zs, (Lit.int k z).wf = true) := by
  intro H enc fuel cs x h
  obtain ⟨xs, n, _, _, hl, hxl, hx⟩ := DataW.trod_struct ht h
  have hall : ∀ i, i < cs.length → ∃ m, cs[i]? = some (.int k m) ∧ (Lit.int k m).wf = true := by
    intro i hi
    have hif : i < fs.size := by omega
    have hfi : fs[i]? = some fs[i] := by simp [hif]
    obtain ⟨q1, q2, q3⟩ := flatI_get hf i fs[i] (by simp [hif])
    have := hx i fs[i] hfi
    obtain ⟨y, hy⟩ : ∃ y, xs[i]? = some y := ⟨xs[i]'(by omega), by simp⟩
    rw [hy, q2, q3] at this
    obtain ⟨m, hm, _, hw⟩ := DataW.trod_int q1 this
    refine ⟨m, ?_, hw⟩
    have h0 : ((cs.drop (0 + i)).take 1)[0]? = some (.int k m) := by rw [hm]; rfl
    simpa using h0
  obtain ⟨zs, rfl, hz⟩ := ints_of hall
  obtain ⟨v1, v2, v3⟩ := VL_ints (g := gW w) (k := k) zs
  exact ⟨_, v1, v2, v3, zs, rfl, by simpa using hl.trans hS, hz⟩

theorem Rd.arrI {t e : TypeId} {n : Nat} {k : IntKind} (ht : P.underlying t = some (.array n e)) (he : P.underlying e = some (.int k)) (h1 : P.cellsOf e = 1) (hS : P.cellsOf t = n) :
    Rd P w t (fun xs => ∃ zs : List Int, xs = zs.map (AV.int k) ∧ zs.length = n ∧ ∀ z ∈ zs, (Lit.int k z).wf = true) := by
  intro H enc fuel cs x h
  obtain ⟨xs, m, _, _, hl, hxl, hx⟩ := DataW.trod_array ht h
  have hall : ∀ i, i < cs.length → ∃ m, cs[i]? = some (.int k m) ∧ (Lit.int k m).wf = true := by
    intro i hi
    have := hx i (by omega)
    obtain ⟨y, hy⟩ : ∃ y, xs[i]? = some y := ⟨xs[i]'(by omega), by simp⟩
    rw [hy, h1, Nat.mul_one] at this
    obtain ⟨m, hm, _, hw⟩ := DataW.trod_int he this
    refine ⟨m, ?_, hw⟩
    have h0 : ((cs.drop i).take 1)[0]? = some (.int k m) := by rw [hm]; rfl
    simpa using h0
  obtain ⟨zs, rfl, hz⟩ := ints_of hall
  obtain ⟨v1, v2, v3⟩ := VL_ints (g := gW w) (k := k) zs
  exact ⟨_, v1, v2, v3, zs, rfl, by simpa using hl.trans hS, hz⟩

theorem Rd.agg {t : TypeId} {Q : List AV → Prop} (h : Rd P w t Q) {H : Type} {en : TypeId × Value → H} {vs : Array Value} {d : DataW H} {ps : List MemPlace}
    (hd : DataW.Trod en P w 0 (fun _ => true) true t (.agg vs) d ps) : ∃ ys, VR (gW w) (.agg ys) (.agg vs) ∧ (AV.agg ys).cl = true ∧ Q ys := by
  obtain ⟨ys, h1, h2, h3, h4⟩ := h.of_trod hd
  exact ⟨ys, by simp only [VR]; exact ⟨vs, rfl, h1, h3⟩, by simpa only [AV.cl] using h2, h4⟩
theorem okWide_arr {t e : TypeId} {n b : Nat} {r : Reach} {v : Value} (ht : P.underlying t = some (.array n e)) (h : Value.okWide P w r b t v) : ∃ cs, v = .agg cs := by
  simp only [Value.okWide, ht] at h
  obtain ⟨cs, h1, _⟩ := h
  exact ⟨cs, h1⟩
theorem len2 {α : Type} {l : List α} (h : l.length = 2) : ∃ a b, l = [a, b] := by
  match l, h with
  | [a, b], _ => exact ⟨a, b, rfl⟩
theorem len3 {α : Type} {l : List α} (h : l.length = 3) : ∃ a b c, l = [a, b, c] := by
  match l, h with
  | [a, b, c], _ => exact ⟨a, b, c, rfl⟩
end Go.Proofs.YtlcflpanellbfaaGreatDoor.M
