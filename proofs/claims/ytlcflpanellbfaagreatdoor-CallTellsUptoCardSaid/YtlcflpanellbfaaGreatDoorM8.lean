/- Slices of slices and strings, conversions, literals, and the small operations. -/
import Derived.Test.YtlcflpanellbfaaGreatDoorM7
import Derived.Laws.BytesArg
import Derived.Lib.ConvBytes
set_option linter.unusedVariables false
set_option linter.unusedSimpArgs false
namespace Go.Proofs.YtlcflpanellbfaaGreatDoor.M
open Go.RowKit
section
variable {P : Program} {w0 w : World} {g : Gh} {h : AH} {n : Nat → Nat} {σ : List AV} {a : Act}
def bndA (σ : List AV) : Option Opd → Option (Option Int)
  | none => some none
  | some y => match evalO σ y with | .int _ i => some (some i) | _ => none
def bndV (a : Act) : Option Operand → Option (Option Int)
  | none => some none
  | some y => match a.eval y with | .int _ i => some (some i) | _ => none
def sliceAV (S : Nat) (lo hi mx : Option Int) (K : AV → Prop) : AV → Prop
  | .str s => mx = none ∧ 0 ≤ lo.getD 0 ∧ lo.getD 0 ≤ hi.getD s.size ∧ hi.getD s.size ≤ s.size ∧ K (.str (s.extract (lo.getD 0).toNat (hi.getD s.size).toNat))
  | .sl m es => 0 ≤ lo.getD 0 ∧ lo.getD 0 ≤ hi.getD es.length ∧ hi.getD es.length ≤ es.length ∧ (∀ e ∈ es, e.length = S) ∧
      match mx with
      | none => K (.sl (if m = .ex ∧ hi.getD es.length = es.length then .ex else .sh) ((es.take (hi.getD es.length).toNat).drop (lo.getD 0).toNat))
      | some M => hi.isSome = true ∧ hi.getD es.length ≤ M ∧ M ≤ es.length ∧ K (.sl (if M = hi.getD es.length then .ex else .sh) ((es.take (hi.getD es.length).toNat).drop (lo.getD 0).toNat))
  | _ => False
theorem run_bound {k : IntKind} {i : Int} {y : Nat} {c : BoundsCode} (h0 : 0 ≤ i) (h1 : i ≤ y) : (Instr.sliceBound (.int k i) y c).run P w = .ok i.toNat w := run_sliceBound w k i y c h0 h1
theorem run_sliceBounds_none {isS : Bool} {len cap : Nat} {lo hi : Option Value} {l h : Option Int} (hl : match lo with | none => l = none | some v => ∃ k i, v = .int k i ∧ l = some i)
    (hh : match hi with | none => h = none | some v => ∃ k i, v = .int k i ∧ h = some i) (h0 : 0 ≤ l.getD 0) (h1 : l.getD 0 ≤ h.getD len) (h2 : h.getD len ≤ cap) :
    (Instr.sliceBounds isS len cap lo hi none).run P w = .ok ((l.getD 0).toNat, (h.getD len).toNat, cap) w := by
  cases lo with
  | none =>
    subst hl
    cases hi with
    | none => subst hh; simp [Instr.sliceBounds]
    | some v =>
      obtain ⟨k, i, rfl, rfl⟩ := hh
      simp only [Option.getD_some, Option.getD_none] at *
      simp [Instr.sliceBounds, run_sliceBound w k i cap _ (by omega) h2]
  | some v =>
    obtain ⟨k, i, rfl, rfl⟩ := hl
    cases hi with
    | none =>
      subst hh
      simp only [Option.getD_some, Option.getD_none] at *
      simp [Instr.sliceBounds, run_sliceBound w k i len _ h0 h1]
    | some v =>
      obtain ⟨k', j, rfl, rfl⟩ := hh
      simp only [Option.getD_some] at *
      have e : (j.toNat : Int) = j := Int.toNat_of_nonneg (by omega)
      simp [Instr.sliceBounds, run_sliceBound w k' j cap _ (by omega) h2, run_sliceBound w k i j.toNat _ h0 (by omega)]
theorem run_sliceBounds_some {isS : Bool} {len cap : Nat} {lo : Option Value} {hv mv : Value} {l : Option Int} {k k' : IntKind} {j M : Int} (hl : match lo with | none => l = none | some v => ∃ k i, v = .int k i ∧ l = some i)
    (hh : hv = .int k j) (hm : mv = .int k' M) (h0 : 0 ≤ l.getD 0) (h1 : l.getD 0 ≤ j) (h2 : j ≤ M) (h3 : M ≤ cap) :
    (Instr.sliceBounds isS len cap lo (some hv) (some mv)).run P w = .ok ((l.getD 0).toNat, j.toNat, M.toNat) w := by
  subst hh hm
  have e : (j.toNat : Int) = j := Int.toNat_of_nonneg (by omega)
  have e' : (M.toNat : Int) = M := Int.toNat_of_nonneg (by omega)
  cases lo with
  | none =>
    subst hl
    simp only [Option.getD_none] at *
    simp [Instr.sliceBounds, run_sliceBound w k' M cap _ (by omega) h3, run_sliceBound w k j M.toNat _ (by omega) (by omega)]
  | some v =>
    obtain ⟨k2, i, rfl, rfl⟩ := hl
    simp only [Option.getD_some] at *
    simp [Instr.sliceBounds, run_sliceBound w k' M cap _ (by omega) h3, run_sliceBound w k j M.toNat _ (by omega) (by omega), run_sliceBound w k2 i j.toNat _ h0 (by omega)]
def BndR (lo : Option Value) (l : Option Int) : Prop := match lo with | none => l = none | some v => ∃ k i, v = .int k i ∧ l = some i
theorem slice_str {K : AV → Prop} {t : TypeId} {s : ByteArray} {lo hi : Option Value} {l h : Option Int} {S : Nat} (ht : P.underlying t = some .string) (hl : BndR lo l) (hh : BndR hi h)
    (hk : sliceAV S l h none K (.str s)) : ∃ r z, (Instr.sliceAt t (.string s) lo hi none).run P w = .ok z w ∧ VR g r z ∧ r.cl = true ∧ K r := by
  obtain ⟨_, h0, h1, h2, hK⟩ := hk
  refine sc_str hK ?_
  have hb := run_sliceBounds_none (P := P) (w := w) (isS := false) (len := s.size) (cap := s.size) hl hh h0 h1 h2
  simp [Instr.sliceAt, run_underlying ht, Instr.slice, hb]
theorem slice_slice {K : AV → Prop} {t e : TypeId} {x : AV} {u : Value} {lo hi mx : Option Value} {l h M : Option Int} {S : Nat} (ht : P.underlying t = some (.slice e)) (he : (P.info? e).map (·.size) = some S)
    (hl : BndR lo l) (hh : BndR hi h) (hm : BndR mx M) (hx : VR g x u) (hk : sliceAV S l h M K x) (hsl : ∃ m es, x = .sl m es) :
    ∃ r z, (Instr.sliceAt t u lo hi mx).run P w = .ok z w ∧ VR g r z ∧ r.cl = true ∧ K r := by
  obtain ⟨m, es, rfl⟩ := hsl
  obtain ⟨h0, h1, h2, hS, hK⟩ := hk
  have hst : ∀ (u : Value) (lo hi mx : Option Value), (Instr.sliceAt t u lo hi mx).run P w = (Instr.slice t u lo hi mx).run P w := by
    intro u lo hi mx; simp [Instr.sliceAt, run_underlying ht]
  -- the value's form: a base, a capacity
  obtain ⟨base, cap, rfl, hcap, hex, hbase⟩ : ∃ base cap, u = .slice base es.length cap ∧ es.length ≤ cap ∧ (m = .ex → cap = es.length) ∧ (es = [] ∧ cap = 0 ∨ ∃ B o, base = some ⟨B, o, none⟩ ∧ PE g es B o) := by
    simp only [VR] at hx
    rcases hx with ⟨rfl, _, z0, rfl⟩ | ⟨B, o, cap, rfl, q2, q3, q4, q5, hp⟩
    · exact ⟨z0, 0, rfl, by simp, fun _ => rfl, .inl ⟨rfl, rfl⟩⟩
    · exact ⟨_, cap, rfl, q2, q3, .inr ⟨B, o, rfl, hp⟩⟩
  generalize hL : (l.getD 0).toNat = L at *
  generalize hH : (h.getD es.length).toNat = H at *
  have hLH : L ≤ H := by omega
  have hHl : H ≤ es.length := by omega
  have hlen : ((es.take H).drop L).length = H - L := by simp; omega
  have huni : Uni ((es.take H).drop L) := by
    have hm : ∀ e ∈ (es.take H).drop L, e.length = S := fun e he => hS e (List.mem_of_mem_take (List.mem_of_mem_drop he))
    have := (uni_append (es := []) (S := S) (by simp) hm).1
    simpa using this
  -- the new slice, whatever its capacity
  have key : ∀ (md : Md) (C : Nat), H - L ≤ C - L → md ≠ .own → (md = .ex → C = H) → L ≤ C → (es.length ≤ cap → C ≤ cap) →
      VR g (.sl md ((es.take H).drop L)) (.slice (if C = L then base else base.map (·.add (L * S))) (H - L) (C - L)) := by
    intro md C hC hmd hmx hLC hCc
    rcases hbase with ⟨rfl, rfl⟩ | ⟨B, o, rfl, hp⟩
    · simp only [VR]
      simp at hHl
      subst hHl
      have : L = 0 := by omega
      subst this
      have : C = 0 := by have := hCc (by simp); omega
      subst this
      exact .inl ⟨by simp, hmd, base, by simp⟩
    · simp only [VR]
      have hpt : PE g (es.take H) B o := PE.take hp H
      have hun : ∀ x ∈ es.take H, x.length = S := fun x hx => hS x (List.mem_of_mem_take hx)
      rcases PE.drop hpt hun L with hd | hd
      · by_cases hc : C = L
        · have : H = L := by omega
          subst this
          refine .inr ⟨B, o, C - H, by simp [hc], by omega, fun hx => by have := hmx hx; omega, fun hx => absurd hx hmd, huni, ?_⟩
          rw [List.eq_nil_of_length_eq_zero (by rw [hlen]; omega : ((es.take H).drop H).length = 0)]
          simp [PE]
        · refine .inr ⟨B, o + L * S, C - L, by simp [hc, addr_add, hlen], by omega, fun hx => by have := hmx hx; omega, fun hx => absurd hx hmd, huni, hd⟩
      · have hz : H - L = 0 := by rw [← hlen, hd]; rfl
        rw [hd]
        by_cases hc : C = L
        · exact .inr ⟨B, o, C - L, by simp [hc, hz], by simp, fun hx => by have := hmx hx; simp; omega, fun hx => absurd hx hmd, fun e he => by simp at he, by simp [PE]⟩
        · exact .inr ⟨B, o + L * S, C - L, by simp [hc, addr_add, hz], by simp, fun hx => by have := hmx hx; simp; omega, fun hx => absurd hx hmd, fun e he => by simp at he, by simp [PE]⟩
  cases mx with
  | none =>
    simp only [BndR] at hm
    subst hm
    simp only at hK
    have hb := run_sliceBounds_none (P := P) (w := w) (isS := true) (len := es.length) (cap := cap) hl hh (by omega) (by omega) (by omega)
    rw [hL, hH] at hb
    refine sc_of (z := .slice (if cap = L then base else base.map (·.add (L * S))) (H - L) (cap - L)) hK (key _ cap (by omega) (by split <;> simp) (fun hc => ?_) (by omega) (fun _ => Nat.le_refl _)) ?_ ?_
    · split at hc
      · rename_i hcc; have := hex hcc.1; omega
      · cases hc
    · simp only [AV.cl]; split <;> rfl
    · rw [hst]
      simp [Instr.slice, run_underlying ht, hb, run_sizeOf_of he]
  | some mv =>
    obtain ⟨k', M', rfl, rfl⟩ := hm
    simp only at hK
    obtain ⟨hhs, hM1, hM2, hK⟩ := hK
    cases hi with
    | none => simp only [BndR] at hh; subst hh; simp at hhs
    | some hv =>
      obtain ⟨k, j, rfl, rfl⟩ := hh
      simp only [Option.getD_some] at *
      have hb := run_sliceBounds_some (P := P) (w := w) (isS := true) (len := es.length) (cap := cap) hl (rfl : (Value.int k j) = _) (rfl : (Value.int k' M') = _) (by omega) (by omega) hM1 (by omega)
      rw [hL, hH] at hb
      refine sc_of (z := .slice (if M'.toNat = L then base else base.map (·.add (L * S))) (H - L) (M'.toNat - L)) hK (key _ M'.toNat (by omega) (by split <;> simp) (fun hc => ?_) (by omega) (fun _ => by omega)) ?_ ?_
      · split at hc
        · rename_i hcc; omega
        · cases hc
      · simp only [AV.cl]; split <;> rfl
      · rw [hst]
        simp [Instr.slice, run_underlying ht, hb, run_sizeOf_of he]
theorem slice_bs {K : AV → Prop} {t e : TypeId} {id off len : Nat} {cap : Option Nat} {u : Value} {lo hi : Option Value} {l h : Option Int} {S : Nat} (ht : P.underlying t = some (.slice e)) (he : (P.info? e).map (·.size) = some S)
    (hl : BndR lo l) (hh : BndR hi h) (hx : VR g (.bs id off len cap) u) (hc : 0 ≤ l.getD 0 ∧ l.getD 0 ≤ h.getD len ∧ h.getD len ≤ len)
    (hk : K (.bs id (off + (l.getD 0).toNat * S) ((h.getD len).toNat - (l.getD 0).toNat) (cap.map fun c => c - (l.getD 0).toNat))) : ∃ r z, (Instr.sliceAt t u lo hi none).run P w = .ok z w ∧ VR g r z ∧ r.cl = true ∧ K r := by
  obtain ⟨h0, h1, h2⟩ := hc
  simp only [VR] at hx
  obtain ⟨B, C, o, hb, rfl, hlen, hcap, hoff⟩ := hx
  have hrb := run_sliceBounds_none (P := P) (w := w) (isS := true) (len := len) (cap := C) hl hh (by omega) (by omega) (by omega)
  generalize hL : (l.getD 0).toNat = L at *
  generalize hH : (h.getD len).toNat = H at *
  refine sc_of (z := .slice (if C = L then some ⟨B, o, none⟩ else (some (⟨B, o, none⟩ : Addr)).map (·.add (L * S))) (H - L) (C - L)) hk ?_ rfl ?_
  · simp only [VR]
    by_cases hC : C = L
    · exact ⟨B, C - L, o, hb, by simp [hC], by omega, fun c hc => by
        cases cap with
        | none => cases hc
        | some c0 => simp only [Option.map_some, Option.some.injEq] at hc; have := hcap c0 rfl; omega, fun hz => by omega⟩
    · exact ⟨B, C - L, o + L * S, hb, by simp [hC, addr_add], by omega, fun c hc => by
        cases cap with
        | none => cases hc
        | some c0 => simp only [Option.map_some, Option.some.injEq] at hc; have := hcap c0 rfl; omega, fun hz => by rw [hoff (by omega)]⟩
  · have hst : (Instr.sliceAt t (.slice (some ⟨B, o, none⟩) len C) lo hi none).run P w = (Instr.slice t (.slice (some ⟨B, o, none⟩) len C) lo hi none).run P w := by
      simp [Instr.sliceAt, run_underlying ht]
    rw [hst]
    simp [Instr.slice, run_underlying ht, hrb, run_sizeOf_of he]
end
end Go.Proofs.YtlcflpanellbfaaGreatDoor.M
