/- The card of ReplyTells in its second form: whatever the two replies, where what it reads is of bulk at most 1048576, it returns true, and the arguments read as before. Proved from the walk of its function and of all that it calls. -/
import Derived.Test.YtjeigcnaalleiaaGreatDoorCards
import Derived.Test.YtjeigcnaalleiaaGreatDoorTie
import Derived.Test.YtjeigcnaalleiaaGreatDoorL67
import Derived.Test.YtjeigcnaalleiaaGreatDoorLaid
import Derived.Test.YtjeigcnaalleiaaGreatDoorWitReplyTells
import Derived.WalkKit
import Derived.ProofKit
import Derived.OpenShut
import Derived.ShutString
import Derived.ChangeOld
import Derived.SizedLaws
import Derived.Deep.DeepHandedRow
import Derived.LaidSub
namespace Go.Proofs.YtjeigcnaalleiaaGreatDoor.replyTells
open Go.ChangeShapes Go.WideShapes Go.ChangeAt Go.RowKit Go.Proofs.YtjeigcnaalleiaaGreatDoor.M Go.Proofs.YtjeigcnaalleiaaGreatDoor.F Go.Proofs.YtjeigcnaalleiaaGreatDoor.L
theorem own : ownKnob Tryz.prog.godebug = none := by kernel_rfl
theorem laidOut : laidOutB Tryz.prog = true := by kernel_rfl
set_option linter.unusedVariables false
section
variable {w : World}
theorem rInt {t : TypeId} (ht : Tryz.prog.underlying t = some (.int .i64)) : RdB Tryz.prog w t (fun xs _ => ∃ n, xs = [.int .i64 n] ∧ L.i64 n) := by
  intro H enc fuel cs x h
  obtain ⟨n, rfl, _, hw⟩ := DataW.trod_int ht h
  refine ⟨[.int .i64 n], by simp [VL, VR], by simp [clL, AV.cl], by simp [onesL, AV.one], n, rfl, ?_⟩
  simp only [Lit.wf, Bool.and_eq_true, decide_eq_true_eq] at hw
  exact ⟨Int.le_trans (by decide) hw.1, Int.le_trans hw.2 (by decide)⟩
theorem rBytes : RdB Tryz.prog w 28 (fun xs b => ∃ l : List UInt8, xs = [.sl .sh (l.map encB)] ∧ l.length ≤ b) :=
  (RdB.slice' (S := 1) (enc := encB) (Q := fun _ _ => True) (fun _ _ _ _ h => h) Tryz.underlying28 (by kernel_rfl) (by decide) ((RdB.byte Tryz.underlying5).mono fun xs b ⟨x, h⟩ => ⟨x, h, trivial⟩)).mono fun xs b ⟨l, h1, h2, _⟩ => ⟨l, h1, h2⟩
theorem rEntry : RdB Tryz.prog w 114 (fun xs b => ∃ e : Ent, xs = encE e ∧ e.1.length ≤ b ∧ L.i64 e.2) := by
  refine (RdB.struct (Rs := [_, _]) Tryz.underlying114 (by kernel_rfl) ⟨RdB.str Tryz.underlying9, rInt Tryz.underlying3, trivial⟩).mono ?_
  rintro xs b ⟨a1, a2, b1, rfl, ⟨s, rfl, hs⟩, hb, a3, a4, b2, rfl, ⟨n, rfl, hn⟩, _, rfl⟩
  exact ⟨(s, n), rfl, by simp only; omega, hn⟩
theorem rLabel : RdB Tryz.prog w 30 (fun xs b => ∃ l : List Ent, xs = [.sl .sh (l.map encE)] ∧ l.length ≤ b ∧ ∀ e ∈ l, e.1.length ≤ b ∧ L.i64 e.2) :=
  RdB.slice' (S := 2) (enc := encE) (Q := fun e b => e.1.length ≤ b ∧ L.i64 e.2) (fun e b b' h k => ⟨Nat.le_trans k.1 h, k.2⟩) Tryz.underlying30 (by kernel_rfl) (by decide) rEntry
theorem rKid : RdB Tryz.prog w 84 (fun xs b => ∃ k : Kd, xs = encK k ∧ okK k) := by
  refine (RdB.struct (Rs := [_, _, _]) Tryz.underlying84 (by kernel_rfl) ⟨rInt Tryz.underlying3, rInt Tryz.underlying3, rInt Tryz.underlying3, trivial⟩).mono ?_
  rintro xs b ⟨a1, a2, b1, rfl, ⟨n, rfl, h1⟩, _, a3, a4, b2, rfl, ⟨k, rfl, h2⟩, _, a5, a6, b3, rfl, ⟨q, rfl, h3⟩, _, rfl⟩
  exact ⟨(n, k, q), rfl, h1, h2, h3⟩
theorem rKids : RdB Tryz.prog w 31 (fun xs b => ∃ l : List Kd, xs = [.sl .sh (l.map encK)] ∧ l.length ≤ b ∧ ∀ k ∈ l, okK k) :=
  (RdB.slice' (S := 3) (enc := encK) (Q := fun k _ => okK k) (fun _ _ _ _ h => h) Tryz.underlying31 (by kernel_rfl) (by decide) rKid).mono fun xs b ⟨l, h1, h2, h3⟩ => ⟨l, h1, h2, h3⟩
theorem rReply : RdB Tryz.prog w 33 (fun xs b => ∃ r : Rep, xs = encR r ∧ (b ≤ 1048576 → inR r)) := by
  refine (RdB.struct (Rs := [_, _, _, _, _, _]) Tryz.underlying33 (by kernel_rfl) ⟨rInt Tryz.underlying27, rInt Tryz.underlying3, rBytes, RdB.str Tryz.underlying9, rLabel, rKids, trivial⟩).mono ?_
  rintro xs b ⟨a1, a2, b1, rfl, ⟨e, rfl, he⟩, _, a3, a4, b2, rfl, ⟨n, rfl, hn⟩, _, a5, a6, b3, rfl, ⟨t, rfl, ht⟩, h3, a7, a8, b4, rfl, ⟨c, rfl, hc⟩, h4, a9, a10, b5, rfl, ⟨l, rfl, hl1, hl2⟩, h5, a11, a12, b6, rfl, ⟨k, rfl, hk, hk2⟩, h6, rfl⟩
  exact ⟨⟨e, n, t, c, l, k⟩, rfl, fun hb => ⟨he, hn, fun x hx => ⟨by have := (hl2 x hx).1; omega, (hl2 x hx).2⟩, hk2⟩⟩
end
set_option maxRecDepth 100000 in
/-- What the row's list gives. -/
theorem gw_of {W : World} (h : laidMetH Tryz.prog Rows.replyTellsUptoRow.laid W) : GW W := by
  have hm : laidMet Tryz.prog (Rows.replyTellsUptoRow.laid.filter fun x => x.2.handleName?.isNone) W := (laidMetH_iff.1 h).1
  refine ⟨fun p hp => ?_, fun e he => ?_⟩
  · simp only [GR, List.mem_singleton] at hp
    subst hp
    exact laid_tab (n := "internal/strconv.uint64pow10") (k := .u64) (zs := Lib.pow10Tab) hm (List.mem_of_getElem? (i := 2) (by kernel_rfl)) (by kernel_rfl) (by kernel_rfl) Tryz.underlying196 Tryz.underlying185 (by kernel_rfl) (by kernel_rfl)
  · simp only [GE, List.mem_cons, List.mem_nil_iff, or_false] at he
    rcases he with rfl | rfl
    · exact laid_iface (n := "strconv.ErrSyntax") (ms := #[]) hm (show ("strconv.ErrSyntax", Rows.laid_strconv_ErrSyntax) ∈ _ from List.mem_of_getElem? (i := 5) (by kernel_rfl)) (by kernel_rfl) (by kernel_rfl) ⟨_, Tryz.underlying64⟩
    · exact laid_iface (n := "strconv.ErrRange") (ms := #[]) hm (show ("strconv.ErrRange", Rows.laid_strconv_ErrRange) ∈ _ from List.mem_of_getElem? (i := 4) (by kernel_rfl)) (by kernel_rfl) (by kernel_rfl) ⟨_, Tryz.underlying64⟩
set_option maxRecDepth 100000 in
theorem contract (H : Type) (enc : TypeId × Value → H) (W : World) (base : Nat) (args : Array Value) (ds gs : List (DataW H)) (before : List MemPlace)
    (hval : ∀ (j : Nat) t v, Tryz.f5.params[j]? = some t → args[j]? = some v → Value.okWide Tryz.prog W .any base t v)
    (hW : DataW.Whole enc Tryz.prog Tryz.f5.params.toList Rows.replyTellsSpec.vars false W args.toList ds gs before) (hL : laidMetH Tryz.prog Rows.replyTellsUptoRow.laid W) (hk : Rows.uptoBulkAll ds ≤ 1048576) :
    Calls Tryz.prog 5 args W fun e W' => ∃ v, e = .returned v ∧ Rows.replyTellsSpec.post enc Tryz.prog Tryz.f5 false true false false W args v W' := by
  have hW' := hW
  obtain ⟨p, q, hA0, hV, rfl, hfz, hnd⟩ := hW
  have hA : DataW.TrodAll enc Tryz.prog W 0 (fun _ => true) true Tryz.f5.params.toList args.toList ds p := hA0
  rw [Tryz.params5] at hA hval
  obtain ⟨v0, vs0, d0, ds0, p0, q0, hargs, rfl, rfl, h0, r0⟩ := trodAll_cons hA
  obtain ⟨v1, vs1, d1, ds1, p1, q1, rfl, rfl, rfl, h1, r1⟩ := trodAll_cons r0
  obtain ⟨rfl, rfl, rfl⟩ := trodAll_nil r1
  obtain rfl : args = #[v0, v1] := by cases args; simp_all
  obtain ⟨rfl, rfl⟩ := trodVars_none hV
  obtain ⟨cs0, rfl, _⟩ := okWide_struct Tryz.underlying33 (hval 0 33 v0 rfl rfl)
  obtain ⟨cs1, rfl, _⟩ := okWide_struct Tryz.underlying33 (hval 1 33 v1 rfl rfl)
  have lt0 : ∀ x ∈ p0, x.block < W.heap.size := by obtain ⟨m, hm⟩ := h0; exact DataW.trod_lt m _ _ _ hm
  have lt1 : ∀ x ∈ p1, x.block < W.heap.size := by obtain ⟨m, hm⟩ := h1; exact DataW.trod_lt m _ _ _ hm
  obtain ⟨fuel, hf⟩ := h0
  have h0 : DataW.Trod enc Tryz.prog W 0 (fun _ => true) true 33 (.agg cs0) d0 p0 := ⟨fuel, hf⟩
  obtain ⟨fuel1, hf1⟩ := h1
  have h1 : DataW.Trod enc Tryz.prog W 0 (fun _ => true) true 33 (.agg cs1) d1 p1 := ⟨fuel1, hf1⟩
  obtain ⟨xs, z0, z0c, z0o, r, rfl, hr⟩ := rReply H enc fuel _ _ hf
  obtain ⟨ys, z1, z1c, z1o, r1, rfl, _⟩ := rReply H enc fuel1 _ _ hf1
  simp only [Rows.uptoBulkAll] at hk
  have hri : inR r := hr (by simp only; omega)
  refine (law_calls okT (vs := [_, _]) (tells_run (b := r1) hri) (by simp only [VL]; exact ⟨_, _, rfl, by simp only [VR]; exact ⟨_, rfl, z0, z0o⟩, _, _, rfl, by simp only [VR]; exact ⟨_, rfl, z1, z1o⟩, rfl⟩) (by simp only [clL, AV.cl, z0c, z1c]; rfl) (gw_of hL) (fun p hp => by simp [GT] at hp)).mono fun e W' ⟨he, bel⟩ => ?_
  subst he
  exact ⟨_, rfl, _, _, _, [], _, [], hW', trodAll_mk1 (shut_bool Tryz.underlying4 _), (trodAll_cons_mk (Below.trod laidOut (by kernel_rfl) (of_decide_eq_true (by kernel_rfl)) h0 bel lt0) (trodAll_cons_mk (Below.trod laidOut (by kernel_rfl) (of_decide_eq_true (by kernel_rfl)) h1 bel lt1) trodAll_mk0)), rfl, bel.frame _, fun h => by cases h⟩
set_option maxRecDepth 100000 in
theorem liftedUpto (os : Os) (started : os.Started) (H : Type) (enc : TypeId × Value → H) (F : Stop.Interp) :
    ReturnsInHanded {} Tryz.checked os 5 .any ((Rows.OpenSpec.upto Rows.replyTellsSpec).preRow enc Tryz.prog Tryz.f5 Rows.replyTellsUptoRow.domain false Rows.replyTellsUptoRow.laid) (((Rows.OpenSpec.upto Rows.replyTellsSpec).at F).post enc Tryz.prog Tryz.f5 false true false false) := by
  obtain ⟨places, hx⟩ := wit.reads os enc
  refine returnsInHanded_of_row (C := Tryz.checked) (s := Rows.OpenSpec.upto Rows.replyTellsSpec) own started (by kernel_rfl) Tryz.func5
    (witness_row_at (enc := enc) (C := Tryz.checked) false (wit.laidWorld os) #[wit.zr, wit.zr] rfl (by kernel_rfl) (by kernel_rfl) (by kernel_rfl)
      (OpenSpec.preRow_of_cond 8 hx (by kernel_rfl) (fun k hk => by cases hk; kernel_rfl) (by kernel_rfl) (wit.laid_met os))) ?_
  intro W base args ds gs before hval hW _ hcond _ hL _ _
  have hk : Rows.uptoBulkAll (ds ++ gs) ≤ 1048576 := of_decide_eq_true (hcond _ rfl)
  have hgs : gs = [] := by obtain ⟨p, q, hA0, hV, _⟩ := hW; exact (trodVars_none hV).1
  subst hgs
  rw [List.append_nil] at hk
  exact contract H enc W base args ds [] before hval hW hL hk
theorem saidUpto : Rows.ReplyTellsUptoSaid :=
  OpenClaim.holds_of_cond 5 Tryz.f5 rfl rfl rfl rfl rfl rfl rfl ⟨rfl, rfl, rfl, rfl, rfl⟩ rfl rfl rfl rfl rfl (by kernel_rfl) Tryz.func5 (by kernel_rfl)
    (of_decide_eq_true (by kernel_rfl)) (by unfold Func.isWrapper; first | (rw [if_pos (by decide +kernel)]; kernel_rfl) | (rw [if_neg (by decide +kernel)]; exact ⟨rfl, rfl⟩))
    (fun os started H enc _ F => by rw [OpenClaim.pre_eq_preRow]; exact liftedUpto os started H enc F)
theorem plain (f : FuncId) (fn : Func) (hf : Tryz.pinned.checked.prog.funcNamed "regency/regencylaw12.ReplyTells" = some f) (hfn : Tryz.pinned.checked.prog.funcs[f]? = some fn) :
    true = Tryz.pinned.checked.prog.looks [] ∧ ∀ (j : Nat) t, fn.params[j]? = some t → Tryz.pinned.checked.prog.wantsStandIn t = false := by
  obtain rfl : f = 5 := Option.some.inj ((show Tryz.prog.funcNamed "regency/regencylaw12.ReplyTells" = some 5 by kernel_rfl).symm.trans hf) |>.symm
  obtain rfl : fn = Tryz.f5 := (Option.some.inj (Tryz.func5.symm.trans hfn)).symm
  refine ⟨by kernel_rfl, fun j t ht => ?_⟩
  rw [Tryz.params5] at ht
  obtain rfl : t = 33 := by simpa using Array.mem_of_getElem? ht
  exact (show Tryz.prog.wantsStandIn 33 = false by kernel_rfl)
end Go.Proofs.YtjeigcnaalleiaaGreatDoor.replyTells
namespace Go.Proofs.YtjeigcnaalleiaaGreatDoor
open Go
/-- The card, under a short name, for the claim. -/
theorem replyTells_card : Rows.ReplyTellsUptoCardSaid :=
  Claim7.holds_tied_plain_at .later [] _ _ _ _ replyTells.saidUpto (fun _ h => by cases h) (by kernel_rfl) (fun _ h => by cases h) replyTellsUpto_row_tie rfl ⟨rfl, rfl⟩ (by kernel_rfl) rfl replyTells.plain (by kernel_rfl)
#print axioms replyTells_card
end Go.Proofs.YtjeigcnaalleiaaGreatDoor
