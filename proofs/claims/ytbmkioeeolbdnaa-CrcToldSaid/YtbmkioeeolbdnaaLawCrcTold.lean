/- The statement of CrcTold: whatever the input, it returns true, and each argument reads as before. Proved from the walk of its function and of all that it calls. -/
import Derived.Test.YtbmkioeeolbdnaaRows
import Derived.Test.YtbmkioeeolbdnaaL97
import Derived.Test.YtbmkioeeolbdnaaM20
import Derived.WalkKit
import Derived.ProofKit
import Derived.OpenShut
import Derived.ShutString
import Derived.ChangeOld
import Derived.SizedLaws
namespace Go.Proofs.Ytbmkioeeolbdnaa.crcTold
open Go.ChangeShapes Go.WideShapes Go.ChangeAt Go.RowKit Go.Proofs.Ytbmkioeeolbdnaa.M Go.Proofs.Ytbmkioeeolbdnaa.F Go.Proofs.Ytbmkioeeolbdnaa.L
open Go.ChangeMaps (open_string shut_string)
theorem u16_wf {n : Int} (h : (Lit.int .u16 n).wf = true) : 0 ≤ n ∧ n < 65536 := by
  simp [Lit.wf, IntKind.has, IntKind.min, IntKind.max, IntKind.signed, IntKind.bits] at h
  omega
theorem callW_calls {P : Program} {w : World} {f : FuncId} {args : List AV} {b : Bool} (hc : CallW P f args [] (fun r h => r = .bool b ∧ h = [])) {vs : List Value} (hv : VL (gW w) args vs) (hcl : clL args = true) (hw : GW w) (hg : Gl (gW w)) :
    Calls P f vs.toArray w fun e w' => e = .returned (.bool b) ∧ Below w.heap.size w w' := by
  refine (hc.2.1 w (gW w) _ w vs hv hcl (Inv.start w hw hg)).mono ?_
  rintro e w' ⟨g', r, u, h', rfl, ⟨rfl, rfl⟩, _, _, hvr, _, hinv⟩
  simp only [VR] at hvr
  subst hvr
  exact ⟨rfl, hinv.below⟩
theorem own : ownKnob Try.prog.godebug = none := by kernel_rfl
theorem laidOut : laidOutB Try.prog = true := by kernel_rfl
set_option maxRecDepth 100000 in
theorem lifted (os : Os) (started : os.Started) (H : Type) (enc : TypeId × Value → H) :
    ReturnsInHanded {} Try.checked os 3 .any (Rows.crcToldSpec.pre6 enc Try.prog Try.f3 Rows.crcToldRow.domain false) (Rows.crcToldSpec.post enc Try.prog Try.f3 false true false false) := by
  refine returnsInHanded_of_change_sized (C := Try.checked) own started (by kernel_rfl) Try.func3
    (ChangeSpec.witness6 (enc := enc) (C := Try.checked) false ⟨#[], #[.slice none 0 0, .agg #[.int .u16 0, .int .u16 0]], []⟩ 8 (by kernel_rfl) (by kernel_rfl) (by kernel_rfl) (by kernel_rfl)) ?_
  intro W base args ds gs before hval0 hW hcnd hsz0 _
  have hval : ∀ (j : Nat) t v, Try.f3.params[j]? = some t → args[j]? = some v → Value.okWide Try.prog W .any base t v := hval0
  have hW' := hW
  obtain ⟨p, q, hA0, hV, rfl, hfz, hnd⟩ := hW
  have hA : DataW.TrodAll enc Try.prog W 0 (fun _ => true) true Try.f3.params.toList args.toList ds p := hA0
  rw [Try.params3] at hA hval
  obtain ⟨v0, vs0, d0, ds0, p0, q0, hargs, rfl, rfl, h0, r0⟩ := trodAll_cons hA
  obtain ⟨v1, vs1, d1, ds1, p1, q1, rfl, rfl, rfl, h1, r1⟩ := trodAll_cons r0
  obtain ⟨rfl, rfl, rfl⟩ := trodAll_nil r1
  obtain rfl : args = #[v0, v1] := by cases args; simp_all
  obtain ⟨rfl, rfl⟩ := trodVars_none hV
  obtain ⟨a0, len0, cap0, rfl⟩ := okWide_slice Try.underlying22 (hval 0 22 v0 rfl rfl)
  have lt0 : ∀ x ∈ p0, x.block < W.heap.size := by obtain ⟨m, hm⟩ := h0; exact DataW.trod_lt m _ _ _ hm
  obtain ⟨l0, z0, w0⟩ := Rd.oneSl (enc := encB) (Rd.bytes Try.underlying22 (by kernel_rfl) Try.underlying5) h0 rfl
  obtain ⟨vv1, rfl⟩ := okWide_arr Try.underlying24 (hval 1 24 v1 rfl rfl)
  have lt1 : ∀ x ∈ p1, x.block < W.heap.size := by obtain ⟨m, hm⟩ := h1; exact DataW.trod_lt m _ _ _ hm
  obtain ⟨A1, z1, c1, zs1, rfl, ln1, w1⟩ := Rd.agg (w := W) (Rd.arrI (k := .u16) Try.underlying24 Try.underlying23 (by kernel_rfl) (by kernel_rfl)) h1
  obtain ⟨x1_0, x1_1, rfl⟩ := len2 ln1
  refine (callW_calls (vs := [_, _]) (told_call (b := l0) (x := x1_0) (y := x1_1) (u16_wf (w1 _ (by simp))) (u16_wf (w1 _ (by simp)))) (by simp only [VL]; exact ⟨_, _, rfl, z0, ⟨_, _, rfl, z1, rfl⟩⟩) (by simp [clL, AV.cl]) ⟨fun p hp => by simp [GR] at hp, fun e he => by simp [GE] at he⟩ (by intro p hp; simp [GT] at hp)).mono fun e W' ⟨he, bel⟩ => ?_
  subst he
  exact ⟨_, rfl, _, _, _, [], _, [], hW', trodAll_mk1 (shut_bool Try.underlying4 _), (trodAll_cons_mk (Below.trod laidOut (by kernel_rfl) (of_decide_eq_true (by kernel_rfl)) h0 bel lt0) (trodAll_cons_mk (Below.trod laidOut (by kernel_rfl) (of_decide_eq_true (by kernel_rfl)) h1 bel lt1) trodAll_mk0)), rfl, bel.frame _, fun h => by cases h⟩
theorem over : Rows.crcToldRow.holds Try.pinned (OpenSpec.ofChange Rows.crcToldSpec) :=
  OpenClaim.holds_of_wide 3 Try.f3 rfl rfl rfl rfl rfl rfl rfl ⟨rfl, rfl, rfl, rfl, rfl⟩ rfl rfl rfl rfl rfl (by kernel_rfl) Try.func3 (by kernel_rfl)
    (of_decide_eq_true (by kernel_rfl)) (by unfold Func.isWrapper; first | (rw [if_pos (by decide +kernel)]; kernel_rfl) | (rw [if_neg (by decide +kernel)]; exact ⟨rfl, rfl⟩))
    (fun os started H enc _ => lifted os started H enc)
theorem proved : Rows.CrcToldSaid := over
#print axioms proved
end Go.Proofs.Ytbmkioeeolbdnaa.crcTold
namespace Go.Proofs.Ytbmkioeeolbdnaa
/-- The row, under a short name, for the claim. -/
theorem crcTold_holds : Rows.CrcToldSaid := crcTold.proved
end Go.Proofs.Ytbmkioeeolbdnaa
