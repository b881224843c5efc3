/- The card of SpeechParses: whatever the text, it returns true, and each argument reads as before. Proved from the walk of its function and of all that it calls. -/
import Derived.Test.YtibchilpaaiecaaGreatDoorCards
import Derived.Test.YtibchilpaaiecaaGreatDoorTie
import Derived.Test.YtibchilpaaiecaaGreatDoorL144
import Derived.Test.YtibchilpaaiecaaGreatDoorLaid
import Derived.Test.YtibchilpaaiecaaGreatDoorWitSpeechParses
import Derived.WalkKit
import Derived.ProofKit
import Derived.OpenShut
import Derived.ShutString
import Derived.ChangeOld
import Derived.SizedLaws
import Derived.Deep.DeepHandedRow
import Derived.LaidSub
namespace Go.Proofs.YtibchilpaaiecaaGreatDoor.speechParses
open Go.ChangeMaps (open_string shut_string)
open Go.ChangeShapes Go.WideShapes Go.ChangeAt Go.RowKit Go.Proofs.YtibchilpaaiecaaGreatDoor.M Go.Proofs.YtibchilpaaiecaaGreatDoor.F Go.Proofs.YtibchilpaaiecaaGreatDoor.L
theorem own : ownKnob Tryz.prog.godebug = none := by kernel_rfl
set_option linter.unusedVariables false
set_option maxRecDepth 100000 in
theorem Lz {W : World} (h : laidMetH Tryz.prog Rows.speechParsesRow.laid W) : GW W := by
 have hm : laidMet Tryz.prog (Rows.speechParsesRow.laid.filter fun x => x.2.handleName?.isNone) W := (laidMetH_iff.1 h).1
 refine ⟨fun p hp => ?_, fun e he => ?_⟩
 ·simp only [GR, List.mem_singleton] at hp
  subst hp
  exact EO (n := "internal/strconv.uint64pow10") (k := .u64) (zs := Lib.pow10Tab) hm (List.mem_of_getElem? (i := 2) (by kernel_rfl)) (by kernel_rfl) (by kernel_rfl) Tryz.underlying217 Tryz.underlying179 (by kernel_rfl) (by kernel_rfl)
 ·simp only [GE, List.mem_cons, List.mem_nil_iff, or_false] at he
  rcases he with rfl | rfl
  ·exact rm (n := "strconv.ErrSyntax") (ms := #[]) hm (show ("strconv.ErrSyntax", Rows.laid_strconv_ErrSyntax) ∈ _ from List.mem_of_getElem? (i := 5) (by kernel_rfl)) (by kernel_rfl) (by kernel_rfl) ⟨_, Tryz.underlying35⟩
  ·exact rm (n := "strconv.ErrRange") (ms := #[]) hm (show ("strconv.ErrRange", Rows.laid_strconv_ErrRange) ∈ _ from List.mem_of_getElem? (i := 4) (by kernel_rfl)) (by kernel_rfl) (by kernel_rfl) ⟨_, Tryz.underlying35⟩
set_option maxRecDepth 100000 in
theorem contract (H : Type) (enc : TypeId × Value → H) (W : World) (base : Nat) (args : Array Value) (ds gs : List (DataW H)) (before : List MemPlace)
  (hval : ∀ (j : Nat) t v, Tryz.f5.params[j]? = some t → args[j]? = some v → Value.okWide Tryz.prog W .any base t v)
  (hW : DataW.Whole enc Tryz.prog Tryz.f5.params.toList Rows.speechParsesSpec.vars false W args.toList ds gs before) (hL : laidMetH Tryz.prog Rows.speechParsesRow.laid W) :
  Calls Tryz.prog 5 args W fun e W' => ∃ v, e = .returned v ∧ Rows.speechParsesSpec.post enc Tryz.prog Tryz.f5 false true false false W args v W' := by
 have hW' := hW
 obtain ⟨p, q, hA0, hV, rfl, hfz, hnd⟩ := hW
 have hA : DataW.TrodAll enc Tryz.prog W 0 (fun _ => true) true Tryz.f5.params.toList args.toList ds p := hA0
 rw [Tryz.params5] at hA hval
 obtain ⟨v0, vs0, d0, ds0, p0, q0, hargs, rfl, rfl, h0, r0⟩ := trodAll_cons hA
 obtain ⟨rfl, rfl, rfl⟩ := trodAll_nil r0
 obtain rfl : args = #[v0] := by cases args; simp_all
 obtain ⟨rfl, rfl⟩ := trodVars_none hV
 obtain ⟨s0, rfl, rfl, rfl, w0⟩ := open_string Tryz.underlying9 (hval 0 9 v0 rfl rfl) h0
 refine (Ae okU (vs := [_]) (uW (s := s0.data.toList)) (by simp only [VL]; exact ⟨_, _, rfl, (by simp only [VR]), rfl⟩) (by simp [clL, AV.cl]) (Lz hL) (fun p hp => by simp [GT] at hp)).mono fun e W' ⟨he, bel⟩ => ?_
 subst he
 exact ⟨_, rfl, _, _, _, [], _, [], hW', trodAll_mk1 (shut_bool Tryz.underlying4 _), (trodAll_cons_mk (shut_string Tryz.underlying9 w0) trodAll_mk0), rfl, bel.frame _, fun h => by cases h⟩
set_option maxRecDepth 100000 in
theorem lifted (os : Os) (started : os.Started) (H : Type) (enc : TypeId × Value → H) (F : Stop.Interp) :
  ReturnsInHanded {} Tryz.checked os 5 .any ((OpenSpec.ofChange Rows.speechParsesSpec).preRow enc Tryz.prog Tryz.f5 Rows.speechParsesRow.domain false Rows.speechParsesRow.laid) (((OpenSpec.ofChange Rows.speechParsesSpec).at F).post enc Tryz.prog Tryz.f5 false true false false) := by
 obtain ⟨places, hx⟩ := wit.reads os enc
 refine returnsInHanded_of_row (C := Tryz.checked) (s := OpenSpec.ofChange Rows.speechParsesSpec) own started (by kernel_rfl) Tryz.func5
  (witness_row_at (enc := enc) (C := Tryz.checked) false (wit.pZ os) #[.string ByteArray.empty] rfl (by kernel_rfl) (by kernel_rfl) (by kernel_rfl)
   (OpenSpec.preRow_of_cond 8 hx (by kernel_rfl) (fun k hk => by cases hk) (by kernel_rfl) (wit.ES os))) ?_
 intro W base args ds gs before hval hW _ hcond _ hL _ _
 have hgs : gs = [] := by obtain ⟨p, q, hA0, hV, _⟩ := hW; exact (trodVars_none hV).1
 subst hgs
 exact contract H enc W base args ds [] before hval hW hL
theorem said : Rows.SpeechParsesSaid :=
 OpenClaim.holds_of_cond 5 Tryz.f5 rfl rfl rfl rfl rfl rfl rfl ⟨rfl, rfl, rfl, rfl, rfl⟩ rfl rfl rfl rfl rfl (by kernel_rfl) Tryz.func5 (by kernel_rfl)
  (of_decide_eq_true (by kernel_rfl)) (by unfold Func.isWrapper; first | (rw [if_pos (by decide +kernel)]; kernel_rfl) | (rw [if_neg (by decide +kernel)]; exact ⟨rfl, rfl⟩))
  (fun os started H enc _ F => by rw [OpenClaim.pre_eq_preRow]; exact lifted os started H enc F)
theorem plain (f : FuncId) (fn : Func) (hf : Tryz.pinned.checked.prog.funcNamed "regency/regencylaw37.SpeechParses" = some f) (hfn : Tryz.pinned.checked.prog.funcs[f]? = some fn) :
  true = Tryz.pinned.checked.prog.looks [] ∧ ∀ (j : Nat) t, fn.params[j]? = some t → Tryz.pinned.checked.prog.wantsStandIn t = false := by
 obtain rfl : f = 5 := Option.some.inj ((show Tryz.prog.funcNamed "regency/regencylaw37.SpeechParses" = some 5 by kernel_rfl).symm.trans hf) |>.symm
 obtain rfl : fn = Tryz.f5 := (Option.some.inj (Tryz.func5.symm.trans hfn)).symm
 refine ⟨by kernel_rfl, fun j t ht => ?_⟩
 rw [Tryz.params5] at ht
 have hm := Array.mem_of_getElem? ht
 simp only [List.mem_toArray, List.mem_cons, List.mem_nil_iff, or_false] at hm
 rcases hm with rfl
 exact (show Tryz.prog.wantsStandIn 9 = false by kernel_rfl)
end Go.Proofs.YtibchilpaaiecaaGreatDoor.speechParses
namespace Go.Proofs.YtibchilpaaiecaaGreatDoor
open Go
theorem speechParses_card : Rows.SpeechParsesCardSaid :=
 Claim7.holds_tied_plain_at .later [] _ _ _ _ speechParses.said (fun _ h => by cases h) (by kernel_rfl) (fun _ h => by cases h) speechParses_row_tie rfl ⟨rfl, rfl⟩ (by kernel_rfl) rfl speechParses.plain (by kernel_rfl)
#print axioms speechParses_card
end Go.Proofs.YtibchilpaaiecaaGreatDoor
