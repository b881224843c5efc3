/- The card of SpeechBack in its second form: whatever the call and the text, where what it reads is of bulk at most 1048576, it returns true, and the arguments read as before. Proved from the walk of its function and of all that it calls. -/
import Derived.Test.YtibchilpaaiecaaGreatDoorCards
import Derived.Test.YtibchilpaaiecaaGreatDoorTie
import Derived.Test.YtibchilpaaiecaaGreatDoorL138
import Derived.Test.YtibchilpaaiecaaGreatDoorLaid
import Derived.Test.YtibchilpaaiecaaGreatDoorWitSpeechBack
import Derived.WalkKit
import Derived.ProofKit
import Derived.OpenShut
import Derived.ShutString
import Derived.ChangeOld
import Derived.SizedLaws
import Derived.Deep.DeepHandedRow
import Derived.LaidSub
namespace Go.Proofs.YtibchilpaaiecaaGreatDoor.speechBack
open Go.ChangeMaps (open_string shut_string)
open Go.ChangeShapes Go.WideShapes Go.ChangeAt Go.RowKit Go.Proofs.YtibchilpaaiecaaGreatDoor.M Go.Proofs.YtibchilpaaiecaaGreatDoor.F Go.Proofs.YtibchilpaaiecaaGreatDoor.L
theorem own : ownKnob Tryz.prog.godebug = none := by kernel_rfl
theorem laidOut : laidOutB Tryz.prog = true := by kernel_rfl
set_option linter.unusedVariables false
section
variable {w : World}
theorem rBytes : RdB Tryz.prog w 26 (fun xs b => ∃ l : List UInt8, xs = [.sl .sh (l.map encB)] ∧ l.length ≤ b) :=
  (RdB.slice' (S := 1) (enc := encB) (Q := fun _ _ => True) (fun _ _ _ _ h => h) Tryz.underlying26 (by kernel_rfl) (by decide) ((RdB.byte Tryz.underlying5).mono fun xs b ⟨x, h⟩ => ⟨x, h, trivial⟩)).mono fun xs b ⟨l, h1, h2, _⟩ => ⟨l, h1, h2⟩
theorem rEntry : RdB Tryz.prog w 92 (fun xs b => ∃ e : Ent, xs = encE e ∧ e.1.length ≤ b) := by
  refine (RdB.struct (Rs := [_, _]) Tryz.underlying92 (by kernel_rfl) ⟨RdB.str Tryz.underlying9, RdB.int Tryz.underlying3, trivial⟩).mono ?_
  rintro xs b ⟨a1, a2, b1, rfl, ⟨s, rfl, hs⟩, hb, a3, a4, b2, rfl, ⟨n, rfl⟩, _, rfl⟩
  exact ⟨(s, n), rfl, by simp only; omega⟩
theorem rLabel : RdB Tryz.prog w 24 (fun xs b => ∃ l : List Ent, xs = [.sl .sh (l.map encE)] ∧ l.length ≤ b ∧ ∀ e ∈ l, e.1.length ≤ b) :=
  RdB.slice' (S := 2) (enc := encE) (Q := fun e b => e.1.length ≤ b) (fun e b b' h k => Nat.le_trans k h) Tryz.underlying24 (by kernel_rfl) (by decide) rEntry
theorem RdB.bool {t : TypeId} (ht : Tryz.prog.underlying t = some .bool) : RdB Tryz.prog w t (fun az _ => ∃ b, az = [.bool b]) := by
  intro H enc fuel cs x h
  obtain ⟨b, rfl, _⟩ := DataW.trod_bool ht h
  exact ⟨[.bool b], by simp [VL, VR], by simp [clL, AV.cl], by simp [onesL, AV.one], b, rfl⟩
theorem rInts : RdB Tryz.prog w 22 (fun xs b => ∃ l : List Int, xs = [.sl .sh (l.map encI)] ∧ l.length ≤ b) :=
  (RdB.slice' (S := 1) (enc := encI) (Q := fun _ _ => True) (fun _ _ _ _ h => h) Tryz.underlying22 (by kernel_rfl) (by decide) ((RdB.int Tryz.underlying3).mono fun xs b ⟨x, h⟩ => ⟨x, h, trivial⟩)).mono fun xs b ⟨l, h1, h2, _⟩ => ⟨l, h1, h2⟩
theorem rStrs : RdB Tryz.prog w 25 (fun xs b => ∃ l : List (List UInt8), xs = [.sl .sh (l.map encT)] ∧ l.length ≤ b ∧ ∀ s ∈ l, s.length ≤ b) :=
  RdB.slice' (S := 1) (enc := encT) (Q := fun s b => s.length ≤ b) (fun e b b' h k => Nat.le_trans k h) Tryz.underlying25 (by kernel_rfl) (by decide) (RdB.str Tryz.underlying9)
def okB (c : Cal) (b : Nat) : Prop := (∀ e ∈ c.lab, e.1.length ≤ b) ∧ (∀ e ∈ c.ent, e.1.length ≤ b) ∧ (∀ s ∈ c.own, s.length ≤ b) ∧ c.lab.length ≤ b ∧ c.ent.length ≤ b
theorem rCall : RdB Tryz.prog w 28 (fun xs b => ∃ c : Cal, xs = encC c ∧ okB c b) := by
  refine (RdB.struct (Rs := [_, _, _, _, _, _, _, _, _, _, _]) Tryz.underlying28 (by kernel_rfl) ⟨RdB.int Tryz.underlying3, rInts, rLabel, rLabel, rStrs, RdB.int Tryz.underlying3, RdB.int Tryz.underlying3, rBytes, RdB.str Tryz.underlying9, rInts, RdB.bool Tryz.underlying4, trivial⟩).mono ?_
  rintro xs b ⟨a1, a2, b1, rfl, ⟨op, rfl⟩, _, a3, a4, b2, rfl, ⟨at_, rfl, _⟩, h2, a5, a6, b3, rfl, ⟨lab, rfl, hl1, hl2⟩, h3, a7, a8, b4, rfl, ⟨ent, rfl, he1, he2⟩, h4, a9, a10, b5, rfl, ⟨ow, rfl, ho1, ho2⟩, h5, a11, a12, b6, rfl, ⟨n, rfl⟩, _, a13, a14, b7, rfl, ⟨m, rfl⟩, _, a15, a16, b8, rfl, ⟨tx, rfl, _⟩, h8, a17, a18, b9, rfl, ⟨ct, rfl, _⟩, h9, a19, a20, b10, rfl, ⟨sg, rfl, _⟩, h10, a21, a22, b11, rfl, ⟨wr, rfl⟩, _, rfl⟩
  exact ⟨⟨op, at_, lab, ent, ow, n, m, tx, ct, sg, wr⟩, rfl, fun x hx => by have := hl2 x hx; omega, fun x hx => by have := he2 x hx; omega, fun x hx => by have := ho2 x hx; omega, by simp only; omega, by simp only; omega⟩
end
set_option maxRecDepth 100000 in
/-- What the row's list gives. -/
theorem gw_of {W : World} (h : laidMetH Tryz.prog Rows.speechBackUptoRow.laid W) : GW W := by
  have hm : laidMet Tryz.prog (Rows.speechBackUptoRow.laid.filter fun x => x.2.handleName?.isNone) W := (laidMetH_iff.1 h).1
  refine ⟨fun p hp => ?_, fun e he => ?_⟩
  · simp only [GR, List.mem_singleton] at hp
    subst hp
    exact laid_tab (n := "internal/strconv.uint64pow10") (k := .u64) (zs := Lib.pow10Tab) hm (List.mem_of_getElem? (i := 2) (by kernel_rfl)) (by kernel_rfl) (by kernel_rfl) Tryz.underlying217 Tryz.underlying179 (by kernel_rfl) (by kernel_rfl)
  · simp only [GE, List.mem_cons, List.mem_nil_iff, or_false] at he
    rcases he with rfl | rfl
    · exact laid_iface (n := "strconv.ErrSyntax") (ms := #[]) hm (show ("strconv.ErrSyntax", Rows.laid_strconv_ErrSyntax) ∈ _ from List.mem_of_getElem? (i := 5) (by kernel_rfl)) (by kernel_rfl) (by kernel_rfl) ⟨_, Tryz.underlying35⟩
    · exact laid_iface (n := "strconv.ErrRange") (ms := #[]) hm (show ("strconv.ErrRange", Rows.laid_strconv_ErrRange) ∈ _ from List.mem_of_getElem? (i := 4) (by kernel_rfl)) (by kernel_rfl) (by kernel_rfl) ⟨_, Tryz.underlying35⟩
set_option maxRecDepth 100000 in
theorem contract (H : Type) (enc : TypeId × Value → H) (W : World) (base : Nat) (args : Array Value) (ds gs : List (DataW H)) (before : List MemPlace)
    (hval : ∀ (j : Nat) t v, Tryz.f4.params[j]? = some t → args[j]? = some v → Value.okWide Tryz.prog W .any base t v)
    (hW : DataW.Whole enc Tryz.prog Tryz.f4.params.toList Rows.speechBackSpec.vars false W args.toList ds gs before) (hL : laidMetH Tryz.prog Rows.speechBackUptoRow.laid W) (hk : Rows.uptoBulkAll ds ≤ 1048576) :
    Calls Tryz.prog 4 args W fun e W' => ∃ v, e = .returned v ∧ Rows.speechBackSpec.post enc Tryz.prog Tryz.f4 false true false false W args v W' := by
  have hW' := hW
  obtain ⟨p, q, hA0, hV, rfl, hfz, hnd⟩ := hW
  have hA : DataW.TrodAll enc Tryz.prog W 0 (fun _ => true) true Tryz.f4.params.toList args.toList ds p := hA0
  rw [Tryz.params4] at hA hval
  obtain ⟨v0, vs0, d0, ds0, p0, q0, hargs, rfl, rfl, h0, r0⟩ := trodAll_cons hA
  obtain ⟨v1, vs1, d1, ds1, p1, q1, rfl, rfl, rfl, h1, r1⟩ := trodAll_cons r0
  obtain ⟨rfl, rfl, rfl⟩ := trodAll_nil r1
  obtain rfl : args = #[v0, v1] := by cases args; simp_all
  obtain ⟨rfl, rfl⟩ := trodVars_none hV
  obtain ⟨cs0, rfl, _⟩ := okWide_struct Tryz.underlying28 (hval 0 28 v0 rfl rfl)
  have lt0 : ∀ x ∈ p0, x.block < W.heap.size := by obtain ⟨m, hm⟩ := h0; exact DataW.trod_lt m _ _ _ hm
  obtain ⟨fuel, hf⟩ := h0
  have h0 : DataW.Trod enc Tryz.prog W 0 (fun _ => true) true 28 (.agg cs0) d0 p0 := ⟨fuel, hf⟩
  obtain ⟨xs, z0, z0c, z0o, r, rfl, hr⟩ := rCall H enc fuel _ _ hf
  obtain ⟨s1, rfl, rfl, rfl, w1⟩ := open_string Tryz.underlying9 (hval 1 9 v1 rfl rfl) h1
  simp only [Rows.uptoBulkAll] at hk
  obtain ⟨k1, k2, k3, k4, k5⟩ := hr
  have hro : shC r := ⟨fun e he => by have := k1 e he; simp only at this; omega, fun e he => by have := k2 e he; simp only at this; omega, fun e he => by have := k3 e he; simp only at this; omega, by simp only at k4; omega, by simp only at k5; omega⟩
  refine (law_calls okU (vs := [_, _]) (back37_run (s := s1.data.toList) hro) (by simp only [VL]; exact ⟨_, _, rfl, by simp only [VR]; exact ⟨_, rfl, z0, z0o⟩, _, _, rfl, (by simp only [VR]), rfl⟩) (by simp only [clL, AV.cl, z0c]; rfl) (gw_of hL) (fun p hp => by simp [GT] at hp)).mono fun e W' ⟨he, bel⟩ => ?_
  subst he
  exact ⟨_, rfl, _, _, _, [], _, [], hW', trodAll_mk1 (shut_bool Tryz.underlying4 _), (trodAll_cons_mk (Below.trod laidOut (by kernel_rfl) (of_decide_eq_true (by kernel_rfl)) h0 bel lt0) (trodAll_cons_mk (shut_string Tryz.underlying9 w1) trodAll_mk0)), rfl, bel.frame _, fun h => by cases h⟩
set_option maxRecDepth 100000 in
theorem liftedUpto (os : Os) (started : os.Started) (H : Type) (enc : TypeId × Value → H) (F : Stop.Interp) :
    ReturnsInHanded {} Tryz.checked os 4 .any ((Rows.OpenSpec.upto Rows.speechBackSpec).preRow enc Tryz.prog Tryz.f4 Rows.speechBackUptoRow.domain false Rows.speechBackUptoRow.laid) (((Rows.OpenSpec.upto Rows.speechBackSpec).at F).post enc Tryz.prog Tryz.f4 false true false false) := by
  obtain ⟨places, hx⟩ := wit.reads os enc
  refine returnsInHanded_of_row (C := Tryz.checked) (s := Rows.OpenSpec.upto Rows.speechBackSpec) own started (by kernel_rfl) Tryz.func4
    (witness_row_at (enc := enc) (C := Tryz.checked) false (wit.laidWorld os) #[wit.zr, .string ByteArray.empty] rfl (by kernel_rfl) (by kernel_rfl) (by kernel_rfl)
      (OpenSpec.preRow_of_cond 8 hx (by kernel_rfl) (fun k hk => by cases hk; kernel_rfl) (by kernel_rfl) (wit.laid_met os))) ?_
  intro W base args ds gs before hval hW _ hcond _ hL _ _
  have hk : Rows.uptoBulkAll (ds ++ gs) ≤ 1048576 := of_decide_eq_true (hcond _ rfl)
  have hgs : gs = [] := by obtain ⟨p, q, hA0, hV, _⟩ := hW; exact (trodVars_none hV).1
  subst hgs
  rw [List.append_nil] at hk
  exact contract H enc W base args ds [] before hval hW hL hk
theorem saidUpto : Rows.SpeechBackUptoSaid :=
  OpenClaim.holds_of_cond 4 Tryz.f4 rfl rfl rfl rfl rfl rfl rfl ⟨rfl, rfl, rfl, rfl, rfl⟩ rfl rfl rfl rfl rfl (by kernel_rfl) Tryz.func4 (by kernel_rfl)
    (of_decide_eq_true (by kernel_rfl)) (by unfold Func.isWrapper; first | (rw [if_pos (by decide +kernel)]; kernel_rfl) | (rw [if_neg (by decide +kernel)]; exact ⟨rfl, rfl⟩))
    (fun os started H enc _ F => by rw [OpenClaim.pre_eq_preRow]; exact liftedUpto os started H enc F)
theorem plain (f : FuncId) (fn : Func) (hf : Tryz.pinned.checked.prog.funcNamed "regency/regencylaw37.SpeechBack" = some f) (hfn : Tryz.pinned.checked.prog.funcs[f]? = some fn) :
    true = Tryz.pinned.checked.prog.looks [] ∧ ∀ (j : Nat) t, fn.params[j]? = some t → Tryz.pinned.checked.prog.wantsStandIn t = false := by
  obtain rfl : f = 4 := Option.some.inj ((show Tryz.prog.funcNamed "regency/regencylaw37.SpeechBack" = some 4 by kernel_rfl).symm.trans hf) |>.symm
  obtain rfl : fn = Tryz.f4 := (Option.some.inj (Tryz.func4.symm.trans hfn)).symm
  refine ⟨by kernel_rfl, fun j t ht => ?_⟩
  rw [Tryz.params4] at ht
  have ht' : t = 28 ∨ t = 9 := by simpa using Array.mem_of_getElem? ht
  rcases ht' with rfl | rfl
  · exact (show Tryz.prog.wantsStandIn 28 = false by kernel_rfl)
  · exact (show Tryz.prog.wantsStandIn 9 = false by kernel_rfl)
end Go.Proofs.YtibchilpaaiecaaGreatDoor.speechBack
namespace Go.Proofs.YtibchilpaaiecaaGreatDoor
open Go
/-- The card, under a short name, for the claim. -/
theorem speechBack_card : Rows.SpeechBackUptoCardSaid :=
  Claim7.holds_tied_plain_at .later [] _ _ _ _ speechBack.saidUpto (fun _ h => by cases h) (by kernel_rfl) (fun _ h => by cases h) speechBackUpto_row_tie rfl ⟨rfl, rfl⟩ (by kernel_rfl) rfl speechBack.plain (by kernel_rfl)
#print axioms speechBack_card
end Go.Proofs.YtibchilpaaiecaaGreatDoor
