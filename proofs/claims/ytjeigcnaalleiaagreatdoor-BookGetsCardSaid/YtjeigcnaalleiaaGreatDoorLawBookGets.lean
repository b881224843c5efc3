/- The card of BookGets: whatever the bytes, it returns true, and the argument reads as before. Proved from the walk of its function and of all that it calls. -/
import Derived.Test.YtjeigcnaalleiaaGreatDoorCards
import Derived.Test.YtjeigcnaalleiaaGreatDoorTie
import Derived.Test.YtjeigcnaalleiaaGreatDoorL55
import Derived.Test.YtjeigcnaalleiaaGreatDoorLaid
import Derived.Test.YtjeigcnaalleiaaGreatDoorWitBookGets
import Derived.WalkKit
import Derived.ProofKit
import Derived.OpenShut
import Derived.ShutString
import Derived.ChangeOld
import Derived.SizedLaws
import Derived.Deep.DeepHandedRow
namespace Go.Proofs.YtjeigcnaalleiaaGreatDoor.bookGets
open Go.ChangeShapes Go.WideShapes Go.ChangeAt Go.RowKit Go.Proofs.YtjeigcnaalleiaaGreatDoor.M Go.Proofs.YtjeigcnaalleiaaGreatDoor.F Go.Proofs.YtjeigcnaalleiaaGreatDoor.L
theorem own : ownKnob Tryz.prog.godebug = none := by kernel_rfl
theorem laidOut : laidOutB Tryz.prog = true := by kernel_rfl
set_option linter.unusedVariables false
set_option maxRecDepth 100000 in
/-- What the row's list gives. -/
theorem gw_of {W : World} (h : laidMetH Tryz.prog Rows.bookGetsRow.laid W) : GW W := by
  have hm : laidMet Tryz.prog Rows.bookGetsRow.laid W := h
  refine ⟨fun p hp => ?_, fun e he => ?_⟩
  · simp only [GR, List.mem_singleton] at hp
    subst hp
    exact laid_tab (n := "internal/strconv.uint64pow10") (k := .u64) (zs := Lib.pow10Tab) hm (List.mem_of_getElem? (i := 2) (by kernel_rfl)) (by kernel_rfl) (by kernel_rfl) Tryz.underlying196 Tryz.underlying185 (by kernel_rfl) (by kernel_rfl)
  · simp only [GE, List.mem_cons, List.mem_nil_iff, or_false] at he
    rcases he with rfl | rfl
    · exact laid_iface (n := "strconv.ErrSyntax") (ms := #[]) hm (List.mem_of_getElem? (i := 5) rfl) (by kernel_rfl) (by kernel_rfl) ⟨_, Tryz.underlying64⟩
    · exact laid_iface (n := "strconv.ErrRange") (ms := #[]) hm (List.mem_of_getElem? (i := 4) rfl) (by kernel_rfl) (by kernel_rfl) ⟨_, Tryz.underlying64⟩
set_option maxRecDepth 100000 in
theorem contract (H : Type) (enc : TypeId × Value → H) (W : World) (base : Nat) (args : Array Value) (ds gs : List (DataW H)) (before : List MemPlace)
    (hval : ∀ (j : Nat) t v, Tryz.f4.params[j]? = some t → args[j]? = some v → Value.okWide Tryz.prog W .any base t v)
    (hW : DataW.Whole enc Tryz.prog Tryz.f4.params.toList Rows.bookGetsSpec.vars false W args.toList ds gs before) (hL : laidMetH Tryz.prog Rows.bookGetsRow.laid W) :
    Calls Tryz.prog 4 args W fun e W' => ∃ v, e = .returned v ∧ Rows.bookGetsSpec.post enc Tryz.prog Tryz.f4 false true false false W args v W' := by
  have hW' := hW
  obtain ⟨p, q, hA0, hV, rfl, hfz, hnd⟩ := hW
  have hA : DataW.TrodAll enc Tryz.prog W 0 (fun _ => true) true Tryz.f4.params.toList args.toList ds p := hA0
  rw [Tryz.params4] at hA hval
  obtain ⟨v0, vs0, d0, ds0, p0, q0, hargs, rfl, rfl, h0, r0⟩ := trodAll_cons hA
  obtain ⟨rfl, rfl, rfl⟩ := trodAll_nil r0
  obtain rfl : args = #[v0] := by cases args; simp_all
  obtain ⟨rfl, rfl⟩ := trodVars_none hV
  obtain ⟨a0, len0, cap0, rfl⟩ := okWide_slice Tryz.underlying28 (hval 0 28 v0 rfl rfl)
  have lt0 : ∀ x ∈ p0, x.block < W.heap.size := by obtain ⟨m, hm⟩ := h0; exact DataW.trod_lt m _ _ _ hm
  obtain ⟨l0, z0, _⟩ := Rd.oneSl (enc := encB) (Rd.bytes Tryz.underlying28 (by kernel_rfl) Tryz.underlying5) h0 rfl
  refine (law_calls okT (vs := [_]) (gets_run (b := l0)) (by simp only [VL]; exact ⟨_, _, rfl, z0, rfl⟩) (by simp [clL, AV.cl]) (gw_of hL) (fun p hp => by simp [GT] at hp)).mono fun e W' ⟨he, bel⟩ => ?_
  subst he
  exact ⟨_, rfl, _, _, _, [], _, [], hW', trodAll_mk1 (shut_bool Tryz.underlying4 _), (trodAll_cons_mk (Below.trod laidOut (by kernel_rfl) (of_decide_eq_true (by kernel_rfl)) h0 bel lt0) trodAll_mk0), rfl, bel.frame _, fun h => by cases h⟩
set_option maxRecDepth 100000 in
theorem lifted (os : Os) (started : os.Started) (H : Type) (enc : TypeId × Value → H) (F : Stop.Interp) :
    ReturnsInHanded {} Tryz.checked os 4 .any ((OpenSpec.ofChange Rows.bookGetsSpec).preRow enc Tryz.prog Tryz.f4 Rows.bookGetsRow.domain false Rows.bookGetsRow.laid) (((OpenSpec.ofChange Rows.bookGetsSpec).at F).post enc Tryz.prog Tryz.f4 false true false false) := by
  obtain ⟨places, hx⟩ := wit.reads os enc
  refine returnsInHanded_of_row (C := Tryz.checked) (s := OpenSpec.ofChange Rows.bookGetsSpec) own started (by kernel_rfl) Tryz.func4
    (witness_row_at (enc := enc) (C := Tryz.checked) false (wit.laidWorld os) #[.slice none 0 0] rfl (by kernel_rfl) (by kernel_rfl) (by kernel_rfl)
      (OpenSpec.preRow_of_cond 8 hx (by kernel_rfl) (fun k hk => by cases hk) (by kernel_rfl) (wit.laid_met os))) ?_
  intro W base args ds gs before hval hW _ hcond _ hL _ _
  have hgs : gs = [] := by obtain ⟨p, q, hA0, hV, _⟩ := hW; exact (trodVars_none hV).1
  subst hgs
  exact contract H enc W base args ds [] before hval hW hL
theorem said : Rows.BookGetsSaid :=
  OpenClaim.holds_of_cond 4 Tryz.f4 rfl rfl rfl rfl rfl rfl rfl ⟨rfl, rfl, rfl, rfl, rfl⟩ rfl rfl rfl rfl rfl (by kernel_rfl) Tryz.func4 (by kernel_rfl)
    (of_decide_eq_true (by kernel_rfl)) (by unfold Func.isWrapper; first | (rw [if_pos (by decide +kernel)]; kernel_rfl) | (rw [if_neg (by decide +kernel)]; exact ⟨rfl, rfl⟩))
    (fun os started H enc _ F => by rw [OpenClaim.pre_eq_preRow]; exact lifted os started H enc F)
theorem plain (f : FuncId) (fn : Func) (hf : Tryz.pinned.checked.prog.funcNamed "regency/regencylaw17.BookGets" = some f) (hfn : Tryz.pinned.checked.prog.funcs[f]? = some fn) :
    true = Tryz.pinned.checked.prog.looks [] ∧ ∀ (j : Nat) t, fn.params[j]? = some t → Tryz.pinned.checked.prog.wantsStandIn t = false := by
  obtain rfl : f = 4 := Option.some.inj ((show Tryz.prog.funcNamed "regency/regencylaw17.BookGets" = some 4 by kernel_rfl).symm.trans hf) |>.symm
  obtain rfl : fn = Tryz.f4 := (Option.some.inj (Tryz.func4.symm.trans hfn)).symm
  refine ⟨by kernel_rfl, fun j t ht => ?_⟩
  rw [Tryz.params4] at ht
  obtain rfl : t = 28 := by simpa using Array.mem_of_getElem? ht
  exact (show Tryz.prog.wantsStandIn 28 = false by kernel_rfl)
end Go.Proofs.YtjeigcnaalleiaaGreatDoor.bookGets
namespace Go.Proofs.YtjeigcnaalleiaaGreatDoor
open Go
/-- The card, under a short name, for the claim. -/
theorem bookGets_card : Rows.BookGetsCardSaid :=
  Claim7.holds_tied_plain_at .later [] _ _ _ _ bookGets.said (fun _ h => by cases h) (by kernel_rfl) (fun _ h => by cases h) bookGets_row_tie rfl ⟨rfl, rfl⟩ (by kernel_rfl) rfl bookGets.plain (by kernel_rfl)
#print axioms bookGets_card
end Go.Proofs.YtjeigcnaalleiaaGreatDoor
