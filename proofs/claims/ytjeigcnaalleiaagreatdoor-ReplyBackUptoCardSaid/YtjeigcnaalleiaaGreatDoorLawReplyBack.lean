/- The card of ReplyBack in its second form: whatever the reply and the bytes, where what it reads is of bulk at most 1048576, it returns true, and the arguments read as before. Proved from the walk of its function and of all that it calls. -/
import Derived.Test.YtjeigcnaalleiaaGreatDoorCards
import Derived.Test.YtjeigcnaalleiaaGreatDoorTie
import Derived.Test.YtjeigcnaalleiaaGreatDoorL59
import Derived.Test.YtjeigcnaalleiaaGreatDoorLaid
import Derived.Test.YtjeigcnaalleiaaGreatDoorWitReplyBack
import Derived.WalkKit
import Derived.ProofKit
import Derived.OpenShut
import Derived.ShutString
import Derived.ChangeOld
import Derived.SizedLaws
import Derived.Deep.DeepHandedRow
import Derived.LaidSub
namespace Go.Proofs.YtjeigcnaalleiaaGreatDoor.replyBack
open Go.ChangeShapes Go.WideShapes Go.ChangeAt Go.RowKit Go.Proofs.YtjeigcnaalleiaaGreatDoor.M Go.Proofs.YtjeigcnaalleiaaGreatDoor.F Go.Proofs.YtjeigcnaalleiaaGreatDoor.L
theorem own : ownKnob Tryz.prog.godebug = none := by kernel_rfl
theorem laidOut : laidOutB Tryz.prog = true := by kernel_rfl
set_option linter.unusedVariables false
section
variable {w : World}
theorem rBytes : RdB Tryz.prog w 28 (fun xs b => ∃ l : List UInt8, xs = [.sl .sh (l.map encB)] ∧ l.length ≤ b) :=
  (RdB.slice' (S := 1) (enc := encB) (Q := fun _ _ => True) (fun _ _ _ _ h => h) Tryz.underlying28 (by kernel_rfl) (by decide) ((RdB.byte Tryz.underlying5).mono fun xs b ⟨x, h⟩ => ⟨x, h, trivial⟩)).mono fun xs b ⟨l, h1, h2, _⟩ => ⟨l, h1, h2⟩
theorem rEntry : RdB Tryz.prog w 114 (fun xs b => ∃ e : Ent, xs = encE e ∧ e.1.length ≤ b) := by
  refine (RdB.struct (Rs := [_, _]) Tryz.underlying114 (by kernel_rfl) ⟨RdB.str Tryz.underlying9, RdB.int Tryz.underlying3, trivial⟩).mono ?_
  rintro xs b ⟨a1, a2, b1, rfl, ⟨s, rfl, hs⟩, hb, a3, a4, b2, rfl, ⟨n, rfl⟩, _, rfl⟩
  exact ⟨(s, n), rfl, by simp only; omega⟩
theorem rLabel : RdB Tryz.prog w 30 (fun xs b => ∃ l : List Ent, xs = [.sl .sh (l.map encE)] ∧ l.length ≤ b ∧ ∀ e ∈ l, e.1.length ≤ b) :=
  RdB.slice' (S := 2) (enc := encE) (Q := fun e b => e.1.length ≤ b) (fun e b b' h k => Nat.le_trans k h) Tryz.underlying30 (by kernel_rfl) (by decide) rEntry
theorem rKid : RdB Tryz.prog w 84 (fun xs b => ∃ k : Kd, xs = encK k ∧ True) := by
  refine (RdB.struct (Rs := [_, _, _]) Tryz.underlying84 (by kernel_rfl) ⟨RdB.int Tryz.underlying3, RdB.int Tryz.underlying3, RdB.int Tryz.underlying3, trivial⟩).mono ?_
  rintro xs b ⟨a1, a2, b1, rfl, ⟨n, rfl⟩, _, a3, a4, b2, rfl, ⟨k, rfl⟩, _, a5, a6, b3, rfl, ⟨q, rfl⟩, _, rfl⟩
  exact ⟨(n, k, q), rfl, trivial⟩
theorem rKids : RdB Tryz.prog w 31 (fun xs b => ∃ l : List Kd, xs = [.sl .sh (l.map encK)] ∧ l.length ≤ b) :=
  (RdB.slice' (S := 3) (enc := encK) (Q := fun _ _ => True) (fun _ _ _ _ h => h) Tryz.underlying31 (by kernel_rfl) (by decide) rKid).mono fun xs b ⟨l, h1, h2, _⟩ => ⟨l, h1, h2⟩
def okB (r : Rep) (b : Nat) : Prop := r.text.length ≤ b ∧ r.cat.length ≤ b ∧ r.label.length ≤ b ∧ (∀ e ∈ r.label, e.1.length ≤ b) ∧ r.kids.length ≤ b
theorem okB_mono {r : Rep} {b b' : Nat} (h : b ≤ b') (k : okB r b) : okB r b' := ⟨Nat.le_trans k.1 h, Nat.le_trans k.2.1 h, Nat.le_trans k.2.2.1 h, fun e he => Nat.le_trans (k.2.2.2.1 e he) h, Nat.le_trans k.2.2.2.2 h⟩
theorem rReply : RdB Tryz.prog w 33 (fun xs b => ∃ r : Rep, xs = encR r ∧ okB r b) := by
  refine (RdB.struct (Rs := [_, _, _, _, _, _]) Tryz.underlying33 (by kernel_rfl) ⟨RdB.int Tryz.underlying27, RdB.int Tryz.underlying3, rBytes, RdB.str Tryz.underlying9, rLabel, rKids, trivial⟩).mono ?_
  rintro xs b ⟨a1, a2, b1, rfl, ⟨e, rfl⟩, _, a3, a4, b2, rfl, ⟨n, rfl⟩, _, a5, a6, b3, rfl, ⟨t, rfl, ht⟩, h3, a7, a8, b4, rfl, ⟨c, rfl, hc⟩, h4, a9, a10, b5, rfl, ⟨l, rfl, hl1, hl2⟩, h5, a11, a12, b6, rfl, ⟨k, rfl, hk⟩, h6, rfl⟩
  exact ⟨⟨e, n, t, c, l, k⟩, rfl, by simp only; omega, by simp only; omega, by simp only; omega, fun x hx => by have := hl2 x hx; omega, by simp only; omega⟩
end
set_option maxRecDepth 100000 in
/-- What the row's list gives. -/
theorem gw_of {W : World} (h : laidMetH Tryz.prog Rows.replyBackUptoRow.laid W) : GW W := by
  have hm : laidMet Tryz.prog (Rows.replyBackUptoRow.laid.filter fun x => x.2.handleName?.isNone) W := (laidMetH_iff.1 h).1
  refine ⟨fun p hp => ?_, fun e he => ?_⟩
  · simp only [GR, List.mem_singleton] at hp
    subst hp
    exact laid_tab (n := "internal/strconv.uint64pow10") (k := .u64) (zs := Lib.pow10Tab) hm (List.mem_of_getElem? (i := 2) (by kernel_rfl)) (by kernel_rfl) (by kernel_rfl) Tryz.underlying196 Tryz.underlying185 (by kernel_rfl) (by kernel_rfl)
  · simp only [GE, List.mem_cons, List.mem_nil_iff, or_false] at he
    rcases he with rfl | rfl
    · exact laid_iface (n := "strconv.ErrSyntax") (ms := #[]) hm (show ("strconv.ErrSyntax", Rows.laid_strconv_ErrSyntax) ∈ _ from List.mem_of_getElem? (i := 5) (by kernel_rfl)) (by kernel_rfl) (by kernel_rfl) ⟨_, Tryz.underlying64⟩
    · exact laid_iface (n := "strconv.ErrRange") (ms := #[]) hm (show ("strconv.ErrRange", Rows.laid_strconv_ErrRange) ∈ _ from List.mem_of_getElem? (i := 4) (by kernel_rfl)) (by kernel_rfl) (by kernel_rfl) ⟨_, Tryz.underlying64⟩
set_option maxRecDepth 100000 in
theorem contract (H : Type) (enc : TypeId × Value → H) (W : World) (base : Nat) (args : Array Value) (ds gs : List (DataW H)) (before : List MemPlace)
    (hval : ∀ (j : Nat) t v, Tryz.f6.params[j]? = some t → args[j]? = some v → Value.okWide Tryz.prog W .any base t v)
    (hW : DataW.Whole enc Tryz.prog Tryz.f6.params.toList Rows.replyBackSpec.vars false W args.toList ds gs before) (hL : laidMetH Tryz.prog Rows.replyBackUptoRow.laid W) (hk : Rows.uptoBulkAll ds ≤ 1048576) :
    Calls Tryz.prog 6 args W fun e W' => ∃ v, e = .returned v ∧ Rows.replyBackSpec.post enc Tryz.prog Tryz.f6 false true false false W args v W' := by
  have hW' := hW
  obtain ⟨p, q, hA0, hV, rfl, hfz, hnd⟩ := hW
  have hA : DataW.TrodAll enc Tryz.prog W 0 (fun _ => true) true Tryz.f6.params.toList args.toList ds p := hA0
  rw [Tryz.params6] at hA hval
  obtain ⟨v0, vs0, d0, ds0, p0, q0, hargs, rfl, rfl, h0, r0⟩ := trodAll_cons hA
  obtain ⟨v1, vs1, d1, ds1, p1, q1, rfl, rfl, rfl, h1, r1⟩ := trodAll_cons r0
  obtain ⟨rfl, rfl, rfl⟩ := trodAll_nil r1
  obtain rfl : args = #[v0, v1] := by cases args; simp_all
  obtain ⟨rfl, rfl⟩ := trodVars_none hV
  obtain ⟨a1, len1, cap1, rfl⟩ := okWide_slice Tryz.underlying28 (hval 1 28 v1 rfl rfl)
  obtain ⟨cs0, rfl, _⟩ := okWide_struct Tryz.underlying33 (hval 0 33 v0 rfl rfl)
  have lt0 : ∀ x ∈ p0, x.block < W.heap.size := by obtain ⟨m, hm⟩ := h0; exact DataW.trod_lt m _ _ _ hm
  have lt1 : ∀ x ∈ p1, x.block < W.heap.size := by obtain ⟨m, hm⟩ := h1; exact DataW.trod_lt m _ _ _ hm
  obtain ⟨fuel, hf⟩ := h0
  have h0 : DataW.Trod enc Tryz.prog W 0 (fun _ => true) true 33 (.agg cs0) d0 p0 := ⟨fuel, hf⟩
  obtain ⟨xs, z0, z0c, z0o, r, rfl, hr⟩ := rReply H enc fuel _ _ hf
  obtain ⟨l1, z1, _⟩ := Rd.oneSl (enc := encB) (Rd.bytes Tryz.underlying28 (by kernel_rfl) Tryz.underlying5) h1 rfl
  simp only [Rows.uptoBulkAll] at hk
  have hro : ∀ e ∈ r.label, e.1.length ≤ 281474976710656 := fun e he => by
    have := (okB_mono (b' := 1048576) (by simp only; omega) hr).2.2.2.1 e he
    omega
  refine (law_calls okT (vs := [_, _]) (back_run (b := l1) hro) (by simp only [VL]; exact ⟨_, _, rfl, by simp only [VR]; exact ⟨_, rfl, z0, z0o⟩, _, _, rfl, z1, rfl⟩) (by simp only [clL, AV.cl, z0c]; rfl) (gw_of hL) (fun p hp => by simp [GT] at hp)).mono fun e W' ⟨he, bel⟩ => ?_
  subst he
  exact ⟨_, rfl, _, _, _, [], _, [], hW', trodAll_mk1 (shut_bool Tryz.underlying4 _), (trodAll_cons_mk (Below.trod laidOut (by kernel_rfl) (of_decide_eq_true (by kernel_rfl)) h0 bel lt0) (trodAll_cons_mk (Below.trod laidOut (by kernel_rfl) (of_decide_eq_true (by kernel_rfl)) h1 bel lt1) trodAll_mk0)), rfl, bel.frame _, fun h => by cases h⟩
set_option maxRecDepth 100000 in
theorem liftedUpto (os : Os) (started : os.Started) (H : Type) (enc : TypeId × Value → H) (F : Stop.Interp) :
    ReturnsInHanded {} Tryz.checked os 6 .any ((Rows.OpenSpec.upto Rows.replyBackSpec).preRow enc Tryz.prog Tryz.f6 Rows.replyBackUptoRow.domain false Rows.replyBackUptoRow.laid) (((Rows.OpenSpec.upto Rows.replyBackSpec).at F).post enc Tryz.prog Tryz.f6 false true false false) := by
  obtain ⟨places, hx⟩ := wit.reads os enc
  refine returnsInHanded_of_row (C := Tryz.checked) (s := Rows.OpenSpec.upto Rows.replyBackSpec) own started (by kernel_rfl) Tryz.func6
    (witness_row_at (enc := enc) (C := Tryz.checked) false (wit.laidWorld os) #[wit.zr, .slice none 0 0] rfl (by kernel_rfl) (by kernel_rfl) (by kernel_rfl)
      (OpenSpec.preRow_of_cond 8 hx (by kernel_rfl) (fun k hk => by cases hk; kernel_rfl) (by kernel_rfl) (wit.laid_met os))) ?_
  intro W base args ds gs before hval hW _ hcond _ hL _ _
  have hk : Rows.uptoBulkAll (ds ++ gs) ≤ 1048576 := of_decide_eq_true (hcond _ rfl)
  have hgs : gs = [] := by obtain ⟨p, q, hA0, hV, _⟩ := hW; exact (trodVars_none hV).1
  subst hgs
  rw [List.append_nil] at hk
  exact contract H enc W base args ds [] before hval hW hL hk
theorem saidUpto : Rows.ReplyBackUptoSaid :=
  OpenClaim.holds_of_cond 6 Tryz.f6 rfl rfl rfl rfl rfl rfl rfl ⟨rfl, rfl, rfl, rfl, rfl⟩ rfl rfl rfl rfl rfl (by kernel_rfl) Tryz.func6 (by kernel_rfl)
    (of_decide_eq_true (by kernel_rfl)) (by unfold Func.isWrapper; first | (rw [if_pos (by decide +kernel)]; kernel_rfl) | (rw [if_neg (by decide +kernel)]; exact ⟨rfl, rfl⟩))
    (fun os started H enc _ F => by rw [OpenClaim.pre_eq_preRow]; exact liftedUpto os started H enc F)
theorem plain (f : FuncId) (fn : Func) (hf : Tryz.pinned.checked.prog.funcNamed "regency/regencylaw12.ReplyBack" = some f) (hfn : Tryz.pinned.checked.prog.funcs[f]? = some fn) :
    true = Tryz.pinned.checked.prog.looks [] ∧ ∀ (j : Nat) t, fn.params[j]? = some t → Tryz.pinned.checked.prog.wantsStandIn t = false := by
  obtain rfl : f = 6 := Option.some.inj ((show Tryz.prog.funcNamed "regency/regencylaw12.ReplyBack" = some 6 by kernel_rfl).symm.trans hf) |>.symm
  obtain rfl : fn = Tryz.f6 := (Option.some.inj (Tryz.func6.symm.trans hfn)).symm
  refine ⟨by kernel_rfl, fun j t ht => ?_⟩
  rw [Tryz.params6] at ht
  have ht' : t = 33 ∨ t = 28 := by simpa using Array.mem_of_getElem? ht
  rcases ht' with rfl | rfl
  · exact (show Tryz.prog.wantsStandIn 33 = false by kernel_rfl)
  · exact (show Tryz.prog.wantsStandIn 28 = false by kernel_rfl)
end Go.Proofs.YtjeigcnaalleiaaGreatDoor.replyBack
namespace Go.Proofs.YtjeigcnaalleiaaGreatDoor
open Go
/-- The card, under a short name, for the claim. -/
theorem replyBack_card : Rows.ReplyBackUptoCardSaid :=
  Claim7.holds_tied_plain_at .later [] _ _ _ _ replyBack.saidUpto (fun _ h => by cases h) (by kernel_rfl) (fun _ h => by cases h) replyBackUpto_row_tie rfl ⟨rfl, rfl⟩ (by kernel_rfl) rfl replyBack.plain (by kernel_rfl)
#print axioms replyBack_card
end Go.Proofs.YtjeigcnaalleiaaGreatDoor
