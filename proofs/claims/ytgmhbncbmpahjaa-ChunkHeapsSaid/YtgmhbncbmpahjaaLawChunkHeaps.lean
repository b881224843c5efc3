/- The statement of ChunkHeaps: whatever the input, it returns true, and each argument reads as before. Proved from the walk of its function and of all that it calls. -/
import Derived.Test.YtgmhbncbmpahjaaRows
import Derived.Test.YtgmhbncbmpahjaaL95
import Derived.Test.YtgmhbncbmpahjaaLaid
import Derived.WalkKit
import Derived.ProofKit
import Derived.OpenShut
import Derived.ShutString
import Derived.ChangeOld
import Derived.SizedLaws
namespace Go.Proofs.Ytgmhbncbmpahjaa.chunkHeaps
open Go.ChangeShapes Go.WideShapes Go.ChangeAt Go.RowKit Go.Proofs.Ytgmhbncbmpahjaa.M Go.Proofs.Ytgmhbncbmpahjaa.F Go.Proofs.Ytgmhbncbmpahjaa.L
open Go.ChangeMaps (open_string shut_string)
section
variable {w : World}
theorem rInt {t : TypeId} (ht : Try.prog.underlying t = some (.int .i64)) : RdB Try.prog w t (fun xs _ => ∃ n, xs = [.int .i64 n]) := RdB.int ht
theorem rBytes : RdB Try.prog w 22 (fun xs _ => ∃ l : List UInt8, xs = [.sl .sh (l.map encB)]) :=
  (RdB.slice' (S := 1) (enc := encB) (Q := fun _ _ => True) (fun _ _ _ _ h => h) Try.underlying22 (by kernel_rfl) (by decide) ((RdB.byte Try.underlying5).mono fun xs b ⟨x, h⟩ => ⟨x, h, trivial⟩)).mono fun xs b ⟨l, h1, _, _⟩ => ⟨l, h1⟩
theorem rOp : RdB Try.prog w 38 (fun xs _ => ∃ o : Op3, xs = encO3 o ∧ True) := by
  refine (RdB.struct (Rs := [_, _, _]) Try.underlying38 (by kernel_rfl) ⟨rInt Try.underlying3, rInt Try.underlying3, rBytes, trivial⟩).mono ?_
  rintro xs b ⟨a1, a2, b1, rfl, ⟨k, rfl⟩, _, a3, a4, b2, rfl, ⟨i, rfl⟩, _, a5, a6, b3, rfl, ⟨c, rfl⟩, _, rfl⟩
  exact ⟨(k, i, c), rfl, trivial⟩
theorem rOps : RdB Try.prog w 25 (fun xs _ => ∃ l : List Op3, xs = [.sl .sh (l.map encO3)]) :=
  (RdB.slice' (S := 3) (enc := encO3) (Q := fun _ _ => True) (fun _ _ _ _ h => h) Try.underlying25 (by kernel_rfl) (by decide) rOp).mono fun xs b ⟨l, h1, _, _⟩ => ⟨l, h1⟩
end
theorem own : ownKnob Try.prog.godebug = none := by kernel_rfl
theorem laidOut : laidOutB Try.prog = true := by kernel_rfl
set_option maxRecDepth 100000 in
theorem lifted (os : Os) (started : os.Started) (H : Type) (enc : TypeId × Value → H) :
    ReturnsInHanded {} Try.checked os 3 .any (Rows.chunkHeapsSpec.pre6 enc Try.prog Try.f3 Rows.chunkHeapsRow.domain false) (Rows.chunkHeapsSpec.post enc Try.prog Try.f3 false true false false) := by
  refine returnsInHanded_of_change_sized (C := Try.checked) own started (by kernel_rfl) Try.func3
    (ChangeSpec.witness6 (enc := enc) (C := Try.checked) false ⟨#[], #[.slice none 0 0, .agg #[.int .i64 0, .int .i64 0, .int .i64 0], .slice none 0 0], []⟩ 8 (by kernel_rfl) (by kernel_rfl) (by kernel_rfl) (by kernel_rfl)) ?_
  intro W base args ds gs before hval0 hW hcnd hsz0 _
  have hval : ∀ (j : Nat) t v, Try.f3.params[j]? = some t → args[j]? = some v → Value.okWide Try.prog W .any base t v := hval0
  have hW' := hW
  obtain ⟨p, q, hA0, hV, rfl, hfz, hnd⟩ := hW
  have hA : DataW.TrodAll enc Try.prog W 0 (fun _ => true) true Try.f3.params.toList args.toList ds p := hA0
  rw [Try.params3] at hA hval
  obtain ⟨v0, vs0, d0, ds0, p0, q0, hargs, rfl, rfl, h0, r0⟩ := trodAll_cons hA
  obtain ⟨v1, vs1, d1, ds1, p1, q1, rfl, rfl, rfl, h1, r1⟩ := trodAll_cons r0
  obtain ⟨v2, vs2, d2, ds2, p2, q2, rfl, rfl, rfl, h2, r2⟩ := trodAll_cons r1
  obtain ⟨rfl, rfl, rfl⟩ := trodAll_nil r2
  obtain rfl : args = #[v0, v1, v2] := by cases args; simp_all
  obtain ⟨rfl, rfl⟩ := trodVars_none hV
  obtain ⟨a0, len0, cap0, rfl⟩ := okWide_slice Try.underlying22 (hval 0 22 v0 rfl rfl)
  have lt0 : ∀ x ∈ p0, x.block < W.heap.size := by obtain ⟨m, hm⟩ := h0; exact DataW.trod_lt m _ _ _ hm
  obtain ⟨l0, z0, w0⟩ := Rd.oneSl (enc := encB) (Rd.bytes Try.underlying22 (by kernel_rfl) Try.underlying5) h0 rfl
  obtain ⟨vv1, rfl, _⟩ := okWide_struct Try.underlying24 (hval 1 24 v1 rfl rfl)
  have lt1 : ∀ x ∈ p1, x.block < W.heap.size := by obtain ⟨m, hm⟩ := h1; exact DataW.trod_lt m _ _ _ hm
  obtain ⟨A1, z1, c1, zs1, rfl, ln1, w1⟩ := Rd.agg (w := W) (Rd.structI (k := .i64) Try.underlying24 (by kernel_rfl) (by kernel_rfl)) h1
  obtain ⟨x1_0, x1_1, x1_2, rfl⟩ := len3 ln1
  obtain ⟨a2, len2, cap2, rfl⟩ := okWide_slice Try.underlying25 (hval 2 25 v2 rfl rfl)
  have lt2 : ∀ x ∈ p2, x.block < W.heap.size := by obtain ⟨m, hm⟩ := h2; exact DataW.trod_lt m _ _ _ hm
  obtain ⟨fuel2, hf2⟩ := h2
  have h2 : DataW.Trod enc Try.prog W 0 (fun _ => true) true 25 (.slice a2 len2 cap2) d2 p2 := ⟨fuel2, hf2⟩
  obtain ⟨az, z2, z2c, z2o, l2, rfl⟩ := rOps H enc fuel2 _ _ hf2
  refine (callW_calls (vs := [_, _, _]) (heaps_call (B := l0) (l := x1_0) (s := x1_1) (d := x1_2) (ops := l2)) (by simp only [VL] at z2 ⊢; obtain ⟨u, us, e, z2, _⟩ := z2; cases e; exact ⟨_, _, rfl, z0, ⟨_, _, rfl, z1, ⟨_, _, rfl, z2, rfl⟩⟩⟩) (by simp [clL, AV.cl]) ⟨fun p hp => by simp [GR] at hp, fun e he => by simp [GE] at he⟩ (by intro p hp; simp [GT] at hp)).mono fun e W' ⟨he, bel⟩ => ?_
  subst he
  exact ⟨_, rfl, _, _, _, [], _, [], hW', trodAll_mk1 (shut_bool Try.underlying4 _), (trodAll_cons_mk (Below.trod laidOut (by kernel_rfl) (of_decide_eq_true (by kernel_rfl)) h0 bel lt0) (trodAll_cons_mk (Below.trod laidOut (by kernel_rfl) (of_decide_eq_true (by kernel_rfl)) h1 bel lt1) (trodAll_cons_mk (Below.trod laidOut (by kernel_rfl) (of_decide_eq_true (by kernel_rfl)) h2 bel lt2) trodAll_mk0))), rfl, bel.frame _, fun h => by cases h⟩
theorem over : Rows.chunkHeapsRow.holds Try.pinned (OpenSpec.ofChange Rows.chunkHeapsSpec) :=
  OpenClaim.holds_of_wide 3 Try.f3 rfl rfl rfl rfl rfl rfl rfl ⟨rfl, rfl, rfl, rfl, rfl⟩ rfl rfl rfl rfl rfl (by kernel_rfl) Try.func3 (by kernel_rfl)
    (of_decide_eq_true (by kernel_rfl)) (by unfold Func.isWrapper; first | (rw [if_pos (by decide +kernel)]; kernel_rfl) | (rw [if_neg (by decide +kernel)]; exact ⟨rfl, rfl⟩))
    (fun os started H enc _ => lifted os started H enc)
theorem proved : Rows.ChunkHeapsSaid := over
#print axioms proved
end Go.Proofs.Ytgmhbncbmpahjaa.chunkHeaps
namespace Go.Proofs.Ytgmhbncbmpahjaa
/-- The row, under a short name, for the claim. -/
theorem chunkHeaps_holds : Rows.ChunkHeapsSaid := chunkHeaps.proved
end Go.Proofs.Ytgmhbncbmpahjaa
