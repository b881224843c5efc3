/- The document's right calls are the program's. -/
import Derived.Test.YtibchilpaaiecaaGreatDoorL118
import Derived.Test.YtibchilpaaiecaaGreatDoorL57
import Derived.Test.YtibchilpaaiecaaGreatDoorL39
import Derived.Test.YtibchilpaaiecaaGreatDoorL43
set_option linter.all false
set_option maxRecDepth 100000
set_option maxHeartbeats 32000000
namespace Go.Proofs.YtibchilpaaiecaaGreatDoor.L
open Go.Proofs.YtibchilpaaiecaaGreatDoor.M Go.Proofs.YtibchilpaaiecaaGreatDoor.F Go.Proofs
structure RC (c : Cal) (a l e o s t m w : Prop) : Prop where
  at_ : (c.at_ = [] ∨ a) ∧ rigP c.at_ = true
  lab : (c.lab = [] ∨ l) ∧ rigL c.lab = true
  ent : (c.ent = [] ∨ e) ∧ rigL c.ent = true
  own : (c.own = [] ∨ o) ∧ rigO c.own = true
  seg : (c.seg = [] ∨ s) ∧ rigP c.seg = true
  text : (c.text = [] ∨ t) ∧ c.text.length ≤ 256
  m : (c.m = 0 ∨ m) ∧ 0 ≤ c.m ∧ c.m ≤ 1048576
  write : (c.write = false ∨ w) ∧ c.n ≤ 1048576 ∧ -1048576 ≤ c.n
theorem emp {α : Type} (l : List α) : l.isEmpty = true ↔ l = [] := List.isEmpty_iff
theorem refR_iff (c : Cal) : refR c = true ↔ ((0 ≤ c.op ∧ c.op ≤ 20) ∧
    RC c (hasP (pS c.op) 97 = true) (hasP (pS c.op) 108 = true) (hasP (pS c.op) 101 = true) (hasP (pS c.op) 111 = true) (hasP (pS c.op) 115 = true) (hasP (pS c.op) 116 = true) (hasP (pS c.op) 109 = true) (hasP (pS c.op) 119 = true)) ∧
    (if hasP (pS c.op) 99 = true then rigC c.cat = true else c.cat = []) ∧ (if hasP (pS c.op) 110 = true then 0 ≤ c.n else (c.n = 0 ∨ hasP (pS c.op) 100 = true)) := by
  unfold refR fi3 fi4 fi5 fi6 fi7 fi8 fi9 fi10 fi11
  generalize pS c.op = p
  have key : ∀ ok : Bool, fi12 c p ok = true ↔ ok = true ∧ (if hasP p 110 = true then 0 ≤ c.n else (c.n = 0 ∨ hasP p 100 = true)) := fun ok => by
    unfold fi12 fi13
    split
    · simp only [Bool.and_eq_true, decide_eq_true_eq, ge_iff_le]
    · simp only [Bool.and_eq_true, Bool.or_eq_true, beq_iff_eq]
  have key2 : ∀ ok : Bool, (if hasP p 99 = true then fi12 c p (ok && rigC c.cat) else fi12 c p (ok && (c.cat == []))) = true ↔ ok = true ∧ (if hasP p 99 = true then rigC c.cat = true else c.cat = []) ∧ (if hasP p 110 = true then 0 ≤ c.n else (c.n = 0 ∨ hasP p 100 = true)) := fun ok => by
    split
    · rw [key]; simp only [Bool.and_eq_true, and_assoc]
    · rw [key]; simp only [Bool.and_eq_true, and_assoc, beq_iff_eq]
  rw [key2]
  simp only [Bool.and_eq_true, Bool.or_eq_true, decide_eq_true_eq, ge_iff_le, emp, beq_iff_eq, Bool.not_eq_true', and_assoc]
  constructor
  · rintro ⟨o1, o2, a1, a2, l1, l2, e1, e2, w1, w2, s1, s2, t1, t2, m1, m2, m3, r1, r2, r3, x, y⟩
    exact ⟨o1, o2, ⟨⟨a1, a2⟩, ⟨l1, l2⟩, ⟨e1, e2⟩, ⟨w1, w2⟩, ⟨s1, s2⟩, ⟨t1, t2⟩, ⟨m1, m2, m3⟩, ⟨r1, r2, r3⟩⟩, x, y⟩
  · rintro ⟨o1, o2, ⟨⟨a1, a2⟩, ⟨l1, l2⟩, ⟨e1, e2⟩, ⟨w1, w2⟩, ⟨s1, s2⟩, ⟨t1, t2⟩, ⟨m1, m2, m3⟩, ⟨r1, r2, r3⟩⟩, x, y⟩
    exact ⟨o1, o2, a1, a2, l1, l2, e1, e2, w1, w2, s1, s2, t1, t2, m1, m2, m3, r1, r2, r3, x, y⟩
def ltr (p : Int) : Int := if p = 0 then 97 else if p = 1 then 108 else if p = 2 then 110 else if p = 3 then 109 else if p = 4 then 101 else if p = 5 then 111 else if p = 6 then 116 else if p = 7 then 99 else if p = 8 then 115 else if p = 9 then 119 else 100
theorem has_mem (op : Int) {p : Int} (hp : 0 ≤ p ∧ p ≤ 10) : hasP (pS op) (ltr p) = true ↔ p ∈ pL op := by
  by_cases hop : 2 ≤ op ∧ op ≤ 20
  · rcases op_cases hop with rfl | rfl | rfl | rfl | rfl | rfl | rfl | rfl | rfl | rfl | rfl | rfl | rfl | rfl | rfl | rfl | rfl | rfl | rfl <;>
    rcases p_cases hp with rfl | rfl | rfl | rfl | rfl | rfl | rfl | rfl | rfl | rfl | rfl <;> decide
  · rw [pL_none hop, pS_none hop]; simp [hasP]
theorem rig_ref (c : Cal) : rigCal c = refR c := by
  have m0 := has_mem c.op (p := 0) (by omega)
  have m1 := has_mem c.op (p := 1) (by omega)
  have m2 := has_mem c.op (p := 2) (by omega)
  have m3 := has_mem c.op (p := 3) (by omega)
  have m4 := has_mem c.op (p := 4) (by omega)
  have m5 := has_mem c.op (p := 5) (by omega)
  have m6 := has_mem c.op (p := 6) (by omega)
  have m7 := has_mem c.op (p := 7) (by omega)
  have m8 := has_mem c.op (p := 8) (by omega)
  have m9 := has_mem c.op (p := 9) (by omega)
  have m10 := has_mem c.op (p := 10) (by omega)
  simp only [ltr, Int.reduceEq, if_true, if_false, reduceIte] at m0 m1 m2 m3 m4 m5 m6 m7 m8 m9 m10
  have hrg := (pL_rng c.op).2
  have hpe := plC_eq c
  rw [Bool.eq_iff_iff, refR_iff]
  simp only [m0, m1, m2, m3, m4, m5, m6, m7, m8, m9, m10]
  generalize hps : pL c.op = ps at *
  clear m0 m1 m2 m3 m4 m5 m6 m7 m8 m9 m10
  constructor
  · intro h
    obtain ⟨ho, hpl, hg⟩ := rigCal_all h
    rw [hps] at hg
    rw [hpe] at hpl
    have g0 := fun z => hg 0 z
    have g1 := fun z => hg 1 z
    have g2 := fun z => hg 2 z
    have g3 := fun z => hg 3 z
    have g4 := fun z => hg 4 z
    have g5 := fun z => hg 5 z
    have g6 := fun z => hg 6 z
    have g7 := fun z => hg 7 z
    have g8 := fun z => hg 8 z
    have g10 := fun z => hg 10 z
    simp only [rgP, Int.reduceEq, if_true, if_false, reduceIte, okN_iff, decide_eq_true_eq, Bool.and_eq_true, ge_iff_le] at g0 g1 g2 g3 g4 g5 g6 g7 g8 g10
    have f0 := congrArg Cal.at_ hpl
    have f1 := congrArg Cal.lab hpl
    have f4 := congrArg Cal.ent hpl
    have f5 := congrArg Cal.own hpl
    have fn := congrArg Cal.n hpl
    have f3 := congrArg Cal.m hpl
    have f6 := congrArg Cal.text hpl
    have f7 := congrArg Cal.cat hpl
    have f8 := congrArg Cal.seg hpl
    have f9 := congrArg Cal.write hpl
    simp only at f0 f1 f4 f5 fn f3 f6 f7 f8 f9
    refine ⟨⟨ho, ?_, ?_, ?_, ?_, ?_, ?_, ?_, ?_⟩, ?_, ?_⟩
    · by_cases z : (0 : Int) ∈ ps
      · exact ⟨.inr z, g0 z⟩
      · rw [if_neg z] at f0; rw [← f0]; exact ⟨.inl rfl, rigP_nil⟩
    · by_cases z : (1 : Int) ∈ ps
      · exact ⟨.inr z, g1 z⟩
      · rw [if_neg z] at f1; rw [← f1]; exact ⟨.inl rfl, rigL_nil⟩
    · by_cases z : (4 : Int) ∈ ps
      · exact ⟨.inr z, g4 z⟩
      · rw [if_neg z] at f4; rw [← f4]; exact ⟨.inl rfl, rigL_nil⟩
    · by_cases z : (5 : Int) ∈ ps
      · exact ⟨.inr z, g5 z⟩
      · rw [if_neg z] at f5; rw [← f5]; exact ⟨.inl rfl, rigO_nil⟩
    · by_cases z : (8 : Int) ∈ ps
      · exact ⟨.inr z, g8 z⟩
      · rw [if_neg z] at f8; rw [← f8]; exact ⟨.inl rfl, rigP_nil⟩
    · by_cases z : (6 : Int) ∈ ps
      · exact ⟨.inr z, g6 z⟩
      · rw [if_neg z] at f6; rw [← f6]; exact ⟨.inl rfl, by simp⟩
    · by_cases z : (3 : Int) ∈ ps
      · exact ⟨.inr z, g3 z⟩
      · rw [if_neg z] at f3; rw [← f3]; exact ⟨.inl rfl, by omega, by omega⟩
    · have hn : c.n ≤ 1048576 ∧ -1048576 ≤ c.n := by
        by_cases z2 : (2 : Int) ∈ ps
        · have := g2 z2; omega
        by_cases z10 : (10 : Int) ∈ ps
        · have := g10 z10; omega
        · rw [if_neg (by simp [z2, z10])] at fn; omega
      refine ⟨?_, hn⟩
      by_cases z : (9 : Int) ∈ ps
      · exact .inr z
      · rw [if_neg z] at f9; exact .inl f9.symm
    · by_cases z : (7 : Int) ∈ ps
      · rw [if_pos z]; exact g7 z
      · rw [if_neg z] at f7 ⊢; exact f7.symm
    · by_cases z2 : (2 : Int) ∈ ps
      · rw [if_pos z2]; exact (g2 z2).1
      · rw [if_neg z2]
        by_cases z10 : (10 : Int) ∈ ps
        · exact .inr z10
        · rw [if_neg (by simp [z2, z10])] at fn; exact .inl fn.symm
  · rintro ⟨⟨ho, r⟩, hcat, hn⟩
    obtain ⟨r0, r1, r4, r5, r8, r6, r3, r9⟩ := r
    have fi : ∀ {α : Type} {P : Prop} [Decidable P] {x y : α}, (x = y ∨ P) → (if P then x else y) = x := fun h => by
      split
      · rfl
      · rename_i hp; rcases h with h | h
        · exact h.symm
        · exact absurd h hp
    have hpl : plC c = c := by
      rw [hpe]
      obtain ⟨a1, a2, a3, a4, a5, a6, a7, a8, a9, a10, a11⟩ := c
      simp only at r0 r1 r4 r5 r8 r6 r3 r9 hcat hn ⊢
      rw [fi r0.1, fi r1.1, fi r4.1, fi r5.1, fi r3.1, fi r6.1, fi r8.1, fi r9.1]
      congr 1
      · by_cases z2 : (2 : Int) ∈ ps
        · rw [if_pos (.inl z2)]
        · rw [if_neg z2] at hn
          rcases hn with hn | hn
          · split <;> simp [hn]
          · rw [if_pos (.inr hn)]
      · by_cases z : (7 : Int) ∈ ps
        · rw [if_pos z]
        · rw [if_neg z] at hcat ⊢; exact hcat.symm
    unfold rigCal
    rw [hps]
    simp only [Bool.and_eq_true, decide_eq_true_eq, List.all_eq_true]
    refine ⟨⟨⟨ho.1, ho.2⟩, hpl⟩, fun p hp => ?_⟩
    rcases p_cases (hrg p hp) with rfl | rfl | rfl | rfl | rfl | rfl | rfl | rfl | rfl | rfl | rfl
    all_goals simp only [rgP, Int.reduceEq, if_true, if_false, reduceIte, okN_iff, decide_eq_true_eq, Bool.and_eq_true, ge_iff_le]
    · exact r0.2
    · exact r1.2
    · rw [if_pos hp] at hn; exact ⟨hn, r9.2.1⟩
    · exact r3.2
    · exact r4.2
    · exact r5.2
    · exact r6.2
    · rw [if_pos hp] at hcat; exact hcat
    · exact r8.2
    · exact ⟨r9.2.2, r9.2.1⟩
end Go.Proofs.YtibchilpaaiecaaGreatDoor.L
/- Calls as words: what the words are; the program's words, walked. -/
set_option linter.all false
set_option maxRecDepth 100000
set_option maxHeartbeats 32000000
namespace Go.Proofs.YtibchilpaaiecaaGreatDoor.L
open Go.Proofs.YtibchilpaaiecaaGreatDoor.M Go.Proofs.YtibchilpaaiecaaGreatDoor.F Go.Proofs
def hexD (n : Nat) : UInt8 := if n < 10 then UInt8.ofNat (48 + n) else UInt8.ofNat (87 + n)
def hexT : List UInt8 → List UInt8
  | [] => []
  | c :: r => hexD (c.toNat / 16) :: hexD (c.toNat % 16) :: hexT r
def bytW (l : List UInt8) : List UInt8 := if l = [] then [45] else hexT l
def wayT (p : List Int) : List UInt8 := if p = [] then [46] else dotT p
def ownT (l : List (List UInt8)) : List UInt8 := if l = [] then [45] else Lib.join l [44]
def nmL : List (List UInt8) := [[110, 111, 116, 104, 105, 110, 103], [99, 97, 116, 101, 103, 111, 114, 121], [115, 101, 103, 109, 101, 110, 116], [99, 111, 110, 116, 97, 105, 110, 101, 114], [116, 104, 114, 101, 97, 100], [103, 97, 116, 101], [115, 112, 97, 99, 101], [114, 101, 97, 100], [119, 114, 105, 116, 101], [114, 101, 115, 105, 122, 101], [108, 105, 115, 116], [115, 116, 97, 116], [102, 114, 101, 101], [109, 111, 118, 101], [108, 97, 98, 101, 108], [101, 110, 116, 101, 114], [100, 114, 111, 112], [109, 97, 112], [117, 110, 109, 97, 112], [108, 111, 97, 100], [115, 116, 111, 114, 101]]
def fmL : List (List UInt8) := [[], [], [97, 108, 110, 109], [97, 108, 110], [97, 108, 110, 111], [97, 108, 110, 101, 111, 109], [97, 108, 110], [97, 110, 109], [97, 110, 116], [97, 110], [97], [97], [97], [97, 110], [108], [97], [99], [97, 110, 115, 119], [97, 110], [97, 110, 109], [97, 110, 116]]
def nmT (op : Int) : List UInt8 := if 0 ≤ op ∧ op ≤ 20 then nmL.getD op.toNat [] else []
def fS (op : Int) : List UInt8 := if 0 ≤ op ∧ op ≤ 20 then fmL.getD op.toNat [] else []
def wrd (c : Cal) (p : UInt8) : List UInt8 :=
  if p = 97 then wayT c.at_ else if p = 115 then wayT c.seg else if p = 108 then labT c.lab else if p = 101 then labT c.ent else if p = 110 then Lib.itoa c.n else
  if p = 109 then Lib.itoa c.m else if p = 111 then ownT c.own else if p = 116 then bytW c.text else if p = 99 then c.cat else if c.write then [119] else [114]
def wrdsC (c : Cal) : List (List UInt8) := nmT c.op :: (fS c.op).map (wrd c)
def cTxt (c : Cal) : List UInt8 := if rigCal c = true then Lib.join (wrdsC c) [32] else []
theorem op21 {op : Int} (h : 0 ≤ op ∧ op ≤ 20) : op = 0 ∨ op = 1 ∨ (2 ≤ op ∧ op ≤ 20) := by omega
theorem nm_get {op : Int} (h : 0 ≤ op ∧ op ≤ 20) : (nmL.map encT)[op.toNat]? = some (encT (nmT op)) := by
  rcases op21 h with rfl | rfl | h
  · rfl
  · rfl
  rcases op_cases h with rfl | rfl | rfl | rfl | rfl | rfl | rfl | rfl | rfl | rfl | rfl | rfl | rfl | rfl | rfl | rfl | rfl | rfl | rfl <;> rfl
theorem fm_get {op : Int} (h : 0 ≤ op ∧ op ≤ 20) : (fmL.map encT)[op.toNat]? = some (encT (fS op)) := by
  rcases op21 h with rfl | rfl | h
  · rfl
  · rfl
  rcases op_cases h with rfl | rfl | rfl | rfl | rfl | rfl | rfl | rfl | rfl | rfl | rfl | rfl | rfl | rfl | rfl | rfl | rfl | rfl | rfl <;> rfl
theorem fS_fit (op : Int) : (fS op).length ≤ 6 ∧ ∀ p ∈ fS op, p = 97 ∨ p = 115 ∨ p = 108 ∨ p = 101 ∨ p = 110 ∨ p = 109 ∨ p = 111 ∨ p = 116 ∨ p = 99 ∨ p = 119 := by
  by_cases hop : 0 ≤ op ∧ op ≤ 20
  · rcases op21 hop with rfl | rfl | h
    · decide
    · decide
    rcases op_cases h with rfl | rfl | rfl | rfl | rfl | rfl | rfl | rfl | rfl | rfl | rfl | rfl | rfl | rfl | rfl | rfl | rfl | rfl | rfl <;> decide
  · unfold fS; rw [if_neg hop]; exact ⟨by simp, fun p hp => by cases hp⟩
theorem nmT_len (op : Int) : (nmT op).length ≤ 9 := by
  by_cases hop : 0 ≤ op ∧ op ≤ 20
  · rcases op21 hop with rfl | rfl | h
    · decide
    · decide
    rcases op_cases h with rfl | rfl | rfl | rfl | rfl | rfl | rfl | rfl | rfl | rfl | rfl | rfl | rfl | rfl | rfl | rfl | rfl | rfl | rfl <;> decide
  · unfold nmT; rw [if_neg hop]; simp
theorem names_run : run T 26 [] [] = some (.sl .ex (nmL.map encT), []) := run_of (n := 300) (by kernel_rfl)
theorem forms_run : run T 27 [] [] = some (.sl .ex (fmL.map encT), []) := run_of (n := 300) (by kernel_rfl)
theorem name_run {op : Int} : run T 8 [.int .i64 op] [] = some (.str ⟨(nmT op).toArray⟩, []) := by
  have h1 := names_run
  have h2 := @nm_get op
  rw [run_code T_8]
  unfold nmT at h2 ⊢
  by_cases h0 : op < 0
  · have d1 : decide (op < 0) = true := decide_eq_true h0
    rw [if_neg (by omega)]
    simp (maxSteps := 2000000) -implicitDefEqProofs (disch := (refine id_ok ?_; first | assumption | omega | (simp [go_sem] <;> omega) | with_unfolding_all rfl | decide)) only [go_sem, Nat.reduceAdd, Nat.reduceSub, Nat.reduceMul, Nat.reduceLeDiff, Nat.reduceEqDiff, Nat.reduceBEq, reduceIte, reduceCtorEq, c_speech_Name, d1]
  · have d1 : decide (op < 0) = false := decide_eq_false h0
    by_cases h3 : op > 20
    · have d2 : decide (op > 20) = true := decide_eq_true h3
      rw [if_neg (by omega)]
      simp (maxSteps := 2000000) -implicitDefEqProofs (disch := (refine id_ok ?_; first | assumption | omega | (simp [go_sem] <;> omega) | with_unfolding_all rfl | decide)) only [go_sem, Nat.reduceAdd, Nat.reduceSub, Nat.reduceMul, Nat.reduceLeDiff, Nat.reduceEqDiff, Nat.reduceBEq, reduceIte, reduceCtorEq, c_speech_Name, d1, d2]
    · have d2 : decide (op > 20) = false := decide_eq_false h3
      have hop : 0 ≤ op ∧ op ≤ 20 := by omega
      have h2 := h2 hop
      rw [if_pos hop] at h2 ⊢
      simp only [encT] at h2
      generalize nmL.map encT = L at *
      simp (maxSteps := 2000000) -implicitDefEqProofs (disch := (refine id_ok ?_; first | assumption | omega | (simp [go_sem] <;> omega) | with_unfolding_all rfl | decide)) only [go_sem, Nat.reduceAdd, Nat.reduceSub, Nat.reduceMul, Nat.reduceLeDiff, Nat.reduceEqDiff, Nat.reduceBEq, reduceIte, reduceCtorEq, c_speech_Name, d1, d2, h1, h2]
theorem eqz {n : Nat} (h : n ≠ 0) : ((n : Int) == 0) = false := by simp; omega
theorem way_run {l : List Int} (hl : l.length ≤ 1000000) (hi : inI l = true) : run T 66 [.sl .sh (l.map encI)] [] = some (.str ⟨(wayT l).toArray⟩, []) := by
  rw [run_code T_66]
  unfold wayT
  by_cases h0 : l = []
  · subst h0
    rw [if_pos rfl]
    simp (maxSteps := 2000000) -implicitDefEqProofs (disch := (refine id_ok ?_; first | assumption | omega | (simp [go_sem] <;> omega) | with_unfolding_all rfl | decide)) only [go_sem, Nat.reduceAdd, Nat.reduceSub, Nat.reduceMul, Nat.reduceLeDiff, Nat.reduceEqDiff, Nat.reduceBEq, reduceIte, reduceCtorEq, c_speech_way, List.map_nil, show (((0 : Nat) : Int) == 0) = true from rfl]
  · rw [if_neg h0]
    have hz := eqz (n := l.length) fun e => h0 (List.length_eq_zero_iff.1 e)
    have h1 := ptx_run (l := l) (h := []) hl hi
    simp (maxSteps := 2000000) -implicitDefEqProofs (disch := (refine id_ok ?_; first | assumption | omega | (simp [go_sem] <;> omega) | with_unfolding_all rfl | decide)) only [go_sem, Nat.reduceAdd, Nat.reduceSub, Nat.reduceMul, Nat.reduceLeDiff, Nat.reduceEqDiff, Nat.reduceBEq, reduceIte, reduceCtorEq, c_speech_way, List.length_map, hz, h1]
theorem own_run {l : List (List UInt8)} (hl : l.length ≤ 1000000) (hc : (Lib.join l [44]).length ≤ 140737488355328) : run T 68 [.sl .sh (l.map encT)] [] = some (.str ⟨(ownT l).toArray⟩, []) := by
  rw [run_code T_68]
  unfold ownT
  by_cases h0 : l = []
  · subst h0
    rw [if_pos rfl]
    simp (maxSteps := 2000000) -implicitDefEqProofs (disch := (refine id_ok ?_; first | assumption | omega | (simp [go_sem] <;> omega) | with_unfolding_all rfl | decide)) only [go_sem, Nat.reduceAdd, Nat.reduceSub, Nat.reduceMul, Nat.reduceLeDiff, Nat.reduceEqDiff, Nat.reduceBEq, reduceIte, reduceCtorEq, c_speech_own, List.map_nil, show (((0 : Nat) : Int) == 0) = true from rfl]
  · rw [if_neg h0]
    have hz := eqz (n := l.length) fun e => h0 (List.length_eq_zero_iff.1 e)
    have h1 := join_run (l := l) (sep := [44]) (h := []) (by omega) hc
    simp (maxSteps := 2000000) -implicitDefEqProofs (disch := (refine id_ok ?_; first | assumption | omega | (simp [go_sem] <;> omega) | with_unfolding_all rfl | decide)) only [go_sem, Nat.reduceAdd, Nat.reduceSub, Nat.reduceMul, Nat.reduceLeDiff, Nat.reduceEqDiff, Nat.reduceBEq, reduceIte, reduceCtorEq, c_speech_own, List.length_map, hz, h1]
theorem hexGet {n : Nat} (h : n < 16) : (⟨#[48, 49, 50, 51, 52, 53, 54, 55, 56, 57, 97, 98, 99, 100, 101, 102]⟩ : ByteArray)[((n : Nat) : Int).toNat]? = some (hexD n) := by
  rw [Int.toNat_natCast]
  have : n = 0 ∨ n = 1 ∨ n = 2 ∨ n = 3 ∨ n = 4 ∨ n = 5 ∨ n = 6 ∨ n = 7 ∨ n = 8 ∨ n = 9 ∨ n = 10 ∨ n = 11 ∨ n = 12 ∨ n = 13 ∨ n = 14 ∨ n = 15 := by omega
  rcases this with rfl | rfl | rfl | rfl | rfl | rfl | rfl | rfl | rfl | rfl | rfl | rfl | rfl | rfl | rfl | rfl <;> rfl
theorem hi4 (c : UInt8) : ((c.toNat : Int)).fdiv (2 ^ (min ((4 : Int).toNat) (kb .u8))) = ((c.toNat / 16 : Nat) : Int) := by
  rw [show min ((4 : Int).toNat) (kb .u8) = 4 from rfl, Int.fdiv_eq_ediv_of_nonneg _ (by decide)]
  omega
theorem lo4 (c : UInt8) : IntKind.u8.wrap ((BitVec.ofInt (kb .u8) (c.toNat : Int) &&& BitVec.ofInt (kb .u8) 15).toNat) = ((c.toNat % 16 : Nat) : Int) := by
  have h1 : (BitVec.ofInt (kb .u8) (c.toNat : Int) &&& BitVec.ofInt (kb .u8) 15).toNat = c.toNat % 16 := by
    show ((BitVec.ofInt 8 (c.toNat : Int) &&& BitVec.ofInt 8 15) : BitVec 8).toNat = c.toNat % 16
    have := c.toNat_lt
    rw [BitVec.ofInt_natCast, BitVec.toNat_and, BitVec.toNat_ofNat, Nat.mod_eq_of_lt (by omega)]
    exact Nat.and_two_pow_sub_one_eq_mod _ 4
  rw [h1, w8]
  omega
theorem hexT_app : ∀ (a b : List UInt8), hexT (a ++ b) = hexT a ++ hexT b
  | [], _ => rfl
  | c :: a, b => by simp only [List.cons_append, hexT, hexT_app a b]
theorem hexT_len : ∀ l : List UInt8, (hexT l).length = 2 * l.length
  | [] => rfl
  | c :: l => by simp only [hexT, List.length_cons, hexT_len l]; omega
theorem byt_loop {l : List UInt8} {h : AH} (hl : l.length ≤ 1000000) : ∀ (d i : Nat) (a : List UInt8), d + i = l.length → a.length ≤ 2 * i →
    den T (.loop l_speech_bytes_0) (s_speech_bytes_0 (ow (a.map encB)) (.sl .sh (l.map encB)) (.int .i64 l.length) (.int .i64 i)) h = some (.exit 0, x_speech_bytes_0 (ow ((a ++ hexT (l.drop i)).map encB)), h) := by
  intro d
  induction d with
  | zero =>
    intro i a hd ha
    have hd' : decide ((i : Int) < l.length) = false := decide_eq_false (by omega)
    rw [List.drop_eq_nil_of_le (by omega), hexT, List.append_nil]
    rw [lp_round]
    simp -implicitDefEqProofs (disch := (refine id_ok ?_; first | assumption | omega | (simp [go_sem] <;> omega) | with_unfolding_all rfl | decide)) only [go_sem, Nat.reduceAdd, Nat.reduceSub, Nat.reduceMul, Nat.reduceLeDiff, Nat.reduceEqDiff, Nat.reduceBEq, reduceIte, reduceCtorEq, hd']
  | succ d ih =>
    intro i a hd ha
    have hib : i < l.length := by omega
    have hd' : decide ((i : Int) < l.length) = true := decide_eq_true (by omega)
    have hge : (l.map encB)[(i : Int).toNat]? = some (encB l[i]) := by simp [hib]
    have hdr : l.drop i = l[i] :: l.drop (i + 1) := List.drop_eq_getElem_cons hib
    have e7 := incP (n := i) (by omega)
    rw [hdr, hexT]
    generalize l[i] = c at *
    have ih' := ih (i + 1) (a ++ [hexD (c.toNat / 16), hexD (c.toNat % 16)]) (by omega) (by simp only [List.length_append, List.length_cons, List.length_nil]; omega)
    have hc := c.toNat_lt
    have g1 := hexGet (n := c.toNat / 16) (by omega)
    have g2 := hexGet (n := c.toNat % 16) (by omega)
    have e1 := hi4 c
    have e2 := lo4 c
    have hml : (a.map encB).length = a.length := List.length_map ..
    have hap : (a ++ [hexD (c.toNat / 16), hexD (c.toNat % 16)]).map encB = a.map encB ++ [[.int .u8 (hexD (c.toNat / 16)).toNat], [.int .u8 (hexD (c.toNat % 16)).toNat]] := by simp [encB]
    rw [hap] at ih'
    simp only [List.append_assoc, List.cons_append, List.nil_append] at ih'
    simp only [encB] at hge
    rw [lp_round]
    simp (maxSteps := 2000000) -implicitDefEqProofs (disch := (refine id_ok ?_; first | assumption | omega | (simp [go_sem] <;> omega) | with_unfolding_all rfl | decide)) only [go_sem, Nat.reduceAdd, Nat.reduceSub, Nat.reduceMul, Nat.reduceLeDiff, Nat.reduceEqDiff, Nat.reduceBEq, reduceIte, reduceCtorEq, hd', hge, e1, e2, g1, g2, e7, hml]
    exact ih'
theorem bytes_run {l : List UInt8} (hl : l.length ≤ 1000000) : run T 69 [.sl .sh (l.map encB)] [] = some (.str ⟨(bytW l).toArray⟩, []) := by
  rw [run_code T_69]
  unfold bytW
  by_cases h0 : l = []
  · subst h0
    rw [if_pos rfl]
    simp (maxSteps := 2000000) -implicitDefEqProofs (disch := (refine id_ok ?_; first | assumption | omega | (simp [go_sem] <;> omega) | with_unfolding_all rfl | decide)) only [go_sem, Nat.reduceAdd, Nat.reduceSub, Nat.reduceMul, Nat.reduceLeDiff, Nat.reduceEqDiff, Nat.reduceBEq, reduceIte, reduceCtorEq, c_speech_bytes, List.map_nil, show (((0 : Nat) : Int) == 0) = true from rfl]
  · rw [if_neg h0]
    have hz := eqz (n := l.length) fun e => h0 (List.length_eq_zero_iff.1 e)
    have h1 := byt_loop (h := []) hl l.length 0 [] (by omega) (by simp)
    simp only [show ((0 : Nat) : Int) = 0 from rfl, List.drop_zero, List.nil_append, List.map_nil] at h1
    simp (maxSteps := 2000000) -implicitDefEqProofs (disch := (refine id_ok ?_; first | assumption | omega | (simp [go_sem] <;> omega) | with_unfolding_all rfl | decide)) only [go_sem, Nat.reduceAdd, Nat.reduceSub, Nat.reduceMul, Nat.reduceLeDiff, Nat.reduceEqDiff, Nat.reduceBEq, reduceIte, reduceCtorEq, c_speech_bytes, List.length_map, hz, h1]
end Go.Proofs.YtibchilpaaiecaaGreatDoor.L
/- Calls as words: a part's word, a call's text: walked. -/
set_option linter.all false
set_option maxRecDepth 100000
set_option maxHeartbeats 32000000
namespace Go.Proofs.YtibchilpaaiecaaGreatDoor.L
open Go.Proofs.YtibchilpaaiecaaGreatDoor.M Go.Proofs.YtibchilpaaiecaaGreatDoor.F Go.Proofs
theorem rigL_okE {l : List Ent} (h : rigL l = true) : (∀ e ∈ l, okE e) ∧ l.length ≤ 8 := by
  simp only [rigL, Bool.and_eq_true, decide_eq_true_eq] at h
  refine ⟨fun e he => ?_, h.1⟩
  obtain ⟨h1, h2, h3, _⟩ := rigE_all l none h.2 e he
  exact ⟨by omega, by omega, by omega⟩
theorem own_join {l : List (List UInt8)} (h : rigO l = true) : (Lib.join l [44]).length ≤ 10000 := by
  obtain ⟨h8, hs⟩ := rigO_all h
  have := join_le (B := 60) (sep := [44]) (l := l) fun x hx => (hs x hx).2
  rw [List.length_singleton] at this
  have : l.length * (60 + 1) ≤ 8 * 61 := Nat.mul_le_mul h8 (Nat.le_refl _)
  omega
theorem lab_len {l : List Ent} (h : rigL l = true) : (labT l).length ≤ 9000000 := by
  obtain ⟨h1, h2⟩ := rigL_okE h
  unfold labT
  split
  · simp
  · have := join_le (B := 1048600) (sep := [44]) (l := l.map lblT) (fun x hx => by obtain ⟨e, he, rfl⟩ := List.mem_map.1 hx; exact lblT_len (h1 e he))
    rw [List.length_map, List.length_singleton] at this
    have : l.length * (1048600 + 1) ≤ 8 * 1048601 := Nat.mul_le_mul h2 (Nat.le_refl _)
    omega
theorem way_len {l : List Int} (h : rigP l = true) : (wayT l).length ≤ 200 := by
  unfold wayT
  split
  · simp
  · obtain ⟨h6, hk⟩ := rigP_all h
    have := dotT_le l fun x hx => by have := hk x hx; omega
    omega
theorem wrd_len {c : Cal} (h : rigCal c = true) (p : UInt8) : (wrd c p).length ≤ 9000000 := by
  have r := rcC_of h
  unfold wrd
  repeat' split
  · have := way_len r.at_; omega
  · have := way_len r.seg; omega
  · exact lab_len r.lab
  · exact lab_len r.ent
  · have := itoa_len (n := c.n) (by have := r.n; omega) (by have := r.n; omega); omega
  · have := itoa_len (n := c.m) (by have := r.m; omega) (by have := r.m; omega); omega
  · unfold ownT
    split
    · simp
    · have := own_join r.own; omega
  · unfold bytW
    split
    · simp
    · rw [hexT_len]; have := r.text; omega
  · have := r.cat; omega
  · simp
  · simp
theorem i48 (p : UInt8) (n : Nat) (h : n < 256) : ((p.toNat : Int) == (n : Int)) = decide (p = UInt8.ofNat n) := by
  by_cases hp : p = UInt8.ofNat n
  · subst hp
    simp; omega
  · rw [decide_eq_false hp, beq_eq_false_iff_ne]
    intro hz
    apply hp
    have : p.toNat = n := by omega
    rw [← this]; simp
theorem word_run {c : Cal} {p : UInt8} (hr : rigCal c = true) (hp : p = 97 ∨ p = 115 ∨ p = 108 ∨ p = 101 ∨ p = 110 ∨ p = 109 ∨ p = 111 ∨ p = 116 ∨ p = 99 ∨ p = 119) : run T 28 [.agg (encC c), .int .u8 p.toNat] [] = some (.str ⟨(wrd c p).toArray⟩, []) := by
  have r := rcC_of hr
  have q1 := way_run (l := c.at_) (by have := (rigP_all r.at_).1; omega) (rigP_inI r.at_)
  have q2 := way_run (l := c.seg) (by have := (rigP_all r.seg).1; omega) (rigP_inI r.seg)
  have q3 := ltx_run (l := c.lab) (rigL_okE r.lab).1 (by have := (rigL_okE r.lab).2; omega)
  have q4 := ltx_run (l := c.ent) (rigL_okE r.ent).1 (by have := (rigL_okE r.ent).2; omega)
  have q5 := itoa_run (n := c.n) (h := []) (by have := r.n; omega) (by have := r.n; omega)
  have q6 := itoa_run (n := c.m) (h := []) (by have := r.m; omega) (by have := r.m; omega)
  have q7 := own_run (l := c.own) (by have := (rigO_all r.own).1; omega) (by have := own_join r.own; omega)
  have q8 := bytes_run (l := c.text) (by have := r.text; omega)
  rw [run_code T_28]
  clear r hr
  obtain ⟨a1, a2, a3, a4, a5, a6, a7, a8, a9, a10, a11⟩ := c
  simp only [encC] at q1 q2 q3 q4 q5 q6 q7 q8 ⊢
  rcases hp with rfl | rfl | rfl | rfl | rfl | rfl | rfl | rfl | rfl | rfl
  · rw [show ((UInt8.toNat 97 : Nat) : Int) = 97 from rfl, show wrd ⟨a1, a2, a3, a4, a5, a6, a7, a8, a9, a10, a11⟩ 97 = wayT a2 from rfl]
    simp (maxSteps := 4000000) -implicitDefEqProofs (disch := (refine id_ok ?_; first | assumption | omega | (simp [go_sem] <;> omega) | with_unfolding_all rfl | decide)) only [go_sem, Nat.reduceAdd, Nat.reduceSub, Nat.reduceMul, Nat.reduceLeDiff, Nat.reduceEqDiff, Nat.reduceBEq, reduceIte, reduceCtorEq, c_speech_word, Int.reduceBEq, q1, q2, q3, q4, q5, q6, q7, q8]
  · rw [show ((UInt8.toNat 115 : Nat) : Int) = 115 from rfl, show wrd ⟨a1, a2, a3, a4, a5, a6, a7, a8, a9, a10, a11⟩ 115 = wayT a10 from rfl]
    simp (maxSteps := 4000000) -implicitDefEqProofs (disch := (refine id_ok ?_; first | assumption | omega | (simp [go_sem] <;> omega) | with_unfolding_all rfl | decide)) only [go_sem, Nat.reduceAdd, Nat.reduceSub, Nat.reduceMul, Nat.reduceLeDiff, Nat.reduceEqDiff, Nat.reduceBEq, reduceIte, reduceCtorEq, c_speech_word, Int.reduceBEq, q1, q2, q3, q4, q5, q6, q7, q8]
  · rw [show ((UInt8.toNat 108 : Nat) : Int) = 108 from rfl, show wrd ⟨a1, a2, a3, a4, a5, a6, a7, a8, a9, a10, a11⟩ 108 = labT a3 from rfl]
    simp (maxSteps := 4000000) -implicitDefEqProofs (disch := (refine id_ok ?_; first | assumption | omega | (simp [go_sem] <;> omega) | with_unfolding_all rfl | decide)) only [go_sem, Nat.reduceAdd, Nat.reduceSub, Nat.reduceMul, Nat.reduceLeDiff, Nat.reduceEqDiff, Nat.reduceBEq, reduceIte, reduceCtorEq, c_speech_word, Int.reduceBEq, q1, q2, q3, q4, q5, q6, q7, q8]
  · rw [show ((UInt8.toNat 101 : Nat) : Int) = 101 from rfl, show wrd ⟨a1, a2, a3, a4, a5, a6, a7, a8, a9, a10, a11⟩ 101 = labT a4 from rfl]
    simp (maxSteps := 4000000) -implicitDefEqProofs (disch := (refine id_ok ?_; first | assumption | omega | (simp [go_sem] <;> omega) | with_unfolding_all rfl | decide)) only [go_sem, Nat.reduceAdd, Nat.reduceSub, Nat.reduceMul, Nat.reduceLeDiff, Nat.reduceEqDiff, Nat.reduceBEq, reduceIte, reduceCtorEq, c_speech_word, Int.reduceBEq, q1, q2, q3, q4, q5, q6, q7, q8]
  · rw [show ((UInt8.toNat 110 : Nat) : Int) = 110 from rfl, show wrd ⟨a1, a2, a3, a4, a5, a6, a7, a8, a9, a10, a11⟩ 110 = Lib.itoa a6 from rfl]
    simp (maxSteps := 4000000) -implicitDefEqProofs (disch := (refine id_ok ?_; first | assumption | omega | (simp [go_sem] <;> omega) | with_unfolding_all rfl | decide)) only [go_sem, Nat.reduceAdd, Nat.reduceSub, Nat.reduceMul, Nat.reduceLeDiff, Nat.reduceEqDiff, Nat.reduceBEq, reduceIte, reduceCtorEq, c_speech_word, Int.reduceBEq, q1, q2, q3, q4, q5, q6, q7, q8]
  · rw [show ((UInt8.toNat 109 : Nat) : Int) = 109 from rfl, show wrd ⟨a1, a2, a3, a4, a5, a6, a7, a8, a9, a10, a11⟩ 109 = Lib.itoa a7 from rfl]
    simp (maxSteps := 4000000) -implicitDefEqProofs (disch := (refine id_ok ?_; first | assumption | omega | (simp [go_sem] <;> omega) | with_unfolding_all rfl | decide)) only [go_sem, Nat.reduceAdd, Nat.reduceSub, Nat.reduceMul, Nat.reduceLeDiff, Nat.reduceEqDiff, Nat.reduceBEq, reduceIte, reduceCtorEq, c_speech_word, Int.reduceBEq, q1, q2, q3, q4, q5, q6, q7, q8]
  · rw [show ((UInt8.toNat 111 : Nat) : Int) = 111 from rfl, show wrd ⟨a1, a2, a3, a4, a5, a6, a7, a8, a9, a10, a11⟩ 111 = ownT a5 from rfl]
    simp (maxSteps := 4000000) -implicitDefEqProofs (disch := (refine id_ok ?_; first | assumption | omega | (simp [go_sem] <;> omega) | with_unfolding_all rfl | decide)) only [go_sem, Nat.reduceAdd, Nat.reduceSub, Nat.reduceMul, Nat.reduceLeDiff, Nat.reduceEqDiff, Nat.reduceBEq, reduceIte, reduceCtorEq, c_speech_word, Int.reduceBEq, q1, q2, q3, q4, q5, q6, q7, q8]
  · rw [show ((UInt8.toNat 116 : Nat) : Int) = 116 from rfl, show wrd ⟨a1, a2, a3, a4, a5, a6, a7, a8, a9, a10, a11⟩ 116 = bytW a8 from rfl]
    simp (maxSteps := 4000000) -implicitDefEqProofs (disch := (refine id_ok ?_; first | assumption | omega | (simp [go_sem] <;> omega) | with_unfolding_all rfl | decide)) only [go_sem, Nat.reduceAdd, Nat.reduceSub, Nat.reduceMul, Nat.reduceLeDiff, Nat.reduceEqDiff, Nat.reduceBEq, reduceIte, reduceCtorEq, c_speech_word, Int.reduceBEq, q1, q2, q3, q4, q5, q6, q7, q8]
  · rw [show ((UInt8.toNat 99 : Nat) : Int) = 99 from rfl, show wrd ⟨a1, a2, a3, a4, a5, a6, a7, a8, a9, a10, a11⟩ 99 = a9 from rfl]
    simp (maxSteps := 4000000) -implicitDefEqProofs (disch := (refine id_ok ?_; first | assumption | omega | (simp [go_sem] <;> omega) | with_unfolding_all rfl | decide)) only [go_sem, Nat.reduceAdd, Nat.reduceSub, Nat.reduceMul, Nat.reduceLeDiff, Nat.reduceEqDiff, Nat.reduceBEq, reduceIte, reduceCtorEq, c_speech_word, Int.reduceBEq, q1, q2, q3, q4, q5, q6, q7, q8]
  · rw [show ((UInt8.toNat 119 : Nat) : Int) = 119 from rfl]
    cases a11
    · rw [show wrd ⟨a1, a2, a3, a4, a5, a6, a7, a8, a9, a10, false⟩ 119 = [114] from rfl]
      simp (maxSteps := 4000000) -implicitDefEqProofs (disch := (refine id_ok ?_; first | assumption | omega | (simp [go_sem] <;> omega) | with_unfolding_all rfl | decide)) only [go_sem, Nat.reduceAdd, Nat.reduceSub, Nat.reduceMul, Nat.reduceLeDiff, Nat.reduceEqDiff, Nat.reduceBEq, reduceIte, reduceCtorEq, c_speech_word, Int.reduceBEq]
    · rw [show wrd ⟨a1, a2, a3, a4, a5, a6, a7, a8, a9, a10, true⟩ 119 = [119] from rfl]
      simp (maxSteps := 4000000) -implicitDefEqProofs (disch := (refine id_ok ?_; first | assumption | omega | (simp [go_sem] <;> omega) | with_unfolding_all rfl | decide)) only [go_sem, Nat.reduceAdd, Nat.reduceSub, Nat.reduceMul, Nat.reduceLeDiff, Nat.reduceEqDiff, Nat.reduceBEq, reduceIte, reduceCtorEq, c_speech_word, Int.reduceBEq]
theorem txt_loop {c : Cal} (hr : rigCal c = true) : ∀ (d i : Nat) (ws : List (List UInt8)), d + i = (fS c.op).length → ws.length ≤ 10 + i →
    den U (.loop l_speech_Text_0) (s_speech_Text_0 (.box 0 0) (ow (ws.map encT)) (.sl .sh ((fS c.op).map encB)) (.int .i64 (fS c.op).length) (.int .i64 i)) [.cells (encC c)] = some (.exit 0, x_speech_Text_0 (ow ((ws ++ ((fS c.op).drop i).map (wrd c)).map encT)), [.cells (encC c)]) := by
  intro d
  induction d with
  | zero =>
    intro i ws hd ha
    have hd' : decide ((i : Int) < (fS c.op).length) = false := decide_eq_false (by omega)
    rw [List.drop_eq_nil_of_le (by omega), List.map_nil, List.append_nil]
    rw [lp_round]
    simp -implicitDefEqProofs (disch := (refine id_ok ?_; first | assumption | omega | (simp [go_sem] <;> omega) | with_unfolding_all rfl | decide)) only [go_sem, Nat.reduceAdd, Nat.reduceSub, Nat.reduceMul, Nat.reduceLeDiff, Nat.reduceEqDiff, Nat.reduceBEq, reduceIte, reduceCtorEq, hd']
  | succ d ih =>
    intro i ws hd ha
    have hib : i < (fS c.op).length := by omega
    have hd' : decide ((i : Int) < (fS c.op).length) = true := decide_eq_true (by omega)
    have hge : ((fS c.op).map encB)[(i : Int).toNat]? = some (encB (fS c.op)[i]) := by simp [hib]
    have hdr : (fS c.op).drop i = (fS c.op)[i] :: (fS c.op).drop (i + 1) := List.drop_eq_getElem_cons hib
    have h6 := (fS_fit c.op).1
    have e7 := incP (n := i) (by omega)
    have hp := (fS_fit c.op).2 _ (List.getElem_mem hib)
    rw [hdr, List.map_cons]
    generalize (fS c.op)[i] = p at *
    have ih' := ih (i + 1) (ws ++ [wrd c p]) (by omega) (by simp only [List.length_append, List.length_cons, List.length_nil]; omega)
    have q := upU (word_run hr hp)
    generalize wrd c p = w at *
    have hml : (ws.map encT).length = ws.length := List.length_map ..
    rw [show (ws ++ [w]).map encT = ws.map encT ++ [[.str ⟨w.toArray⟩]] by simp [encT]] at ih'
    simp only [List.append_assoc, List.cons_append, List.nil_append] at ih'
    simp only [encB] at hge
    generalize fS c.op = f at *
    clear hp hr ih
    obtain ⟨a1, a2, a3, a4, a5, a6, a7, a8, a9, a10, a11⟩ := c
    simp only [encC] at q ih' ⊢
    rw [lp_round]
    simp (maxSteps := 4000000) -implicitDefEqProofs (disch := (refine id_ok ?_; first | assumption | omega | (simp [go_sem] <;> omega) | with_unfolding_all rfl | decide)) only [go_sem, Nat.reduceAdd, Nat.reduceSub, Nat.reduceMul, Nat.reduceLeDiff, Nat.reduceEqDiff, Nat.reduceBEq, reduceIte, reduceCtorEq, hd', hge, q, e7, hml]
    exact ih'
theorem txt_all {c : Cal} (hr : rigCal c = true) : ∃ V, (V = ow ((wrdsC c).map encT) ∨ V = .sl .ex ((wrdsC c).map encT)) ∧
    den U (.loop l_speech_Text_0) (s_speech_Text_0 (.box 0 0) (.sl .ex [encT (nmT c.op)]) (.sl .sh ((fS c.op).map encB)) (.int .i64 (fS c.op).length) (.int .i64 0)) [.cells (encC c)] = some (.exit 0, x_speech_Text_0 V, [.cells (encC c)]) := by
  unfold wrdsC
  have h6 := (fS_fit c.op).1
  have key := txt_loop hr
  have hfit := (fS_fit c.op).2
  cases hf : fS c.op with
  | nil =>
    refine ⟨_, .inr rfl, ?_⟩
    have hd' : decide ((0 : Int) < ((0 : Nat) : Int)) = false := rfl
    rw [List.map_nil, List.map_cons, List.map_nil, List.map_nil, lp_round]
    simp -implicitDefEqProofs (disch := (refine id_ok ?_; first | assumption | omega | (simp [go_sem] <;> omega) | with_unfolding_all rfl | decide)) only [go_sem, Nat.reduceAdd, Nat.reduceSub, Nat.reduceMul, Nat.reduceLeDiff, Nat.reduceEqDiff, Nat.reduceBEq, reduceIte, reduceCtorEq, hd']
  | cons p ps =>
    refine ⟨_, .inl rfl, ?_⟩
    rw [hf] at h6 key hfit
    have hp := hfit p (by simp)
    have ih' := key ps.length 1 [nmT c.op, wrd c p] (by simp <;> omega) (by simp)
    have hd' : decide ((0 : Int) < ((p :: ps).length : Int)) = true := decide_eq_true (by simp <;> omega)
    have hge : ((p :: ps).map encB)[(0 : Int).toNat]? = some (encB p) := by simp
    have q := upU (word_run hr hp)
    rw [show List.drop 1 (p :: ps) = ps from rfl] at ih'
    rw [List.map_cons (f := wrd c)]
    generalize wrd c p = w at *
    generalize ps.map (wrd c) = ws at *
    generalize nmT c.op = nm at *
    generalize p :: ps = f at *
    simp only [encB] at hge
    simp only [List.map_cons, List.map_nil, List.cons_append, List.nil_append, encT] at ih' ⊢
    clear hp hr key hfit
    obtain ⟨a1, a2, a3, a4, a5, a6, a7, a8, a9, a10, a11⟩ := c
    simp only [encC] at q ih' ⊢
    have e7 : IntKind.i64.wrap (0 + 1) = 1 := rfl
    rw [lp_round]
    simp (maxSteps := 4000000) -implicitDefEqProofs (disch := (refine id_ok ?_; first | assumption | omega | (simp [go_sem] <;> omega) | with_unfolding_all rfl | decide)) only [go_sem, Nat.reduceAdd, Nat.reduceSub, Nat.reduceMul, Nat.reduceLeDiff, Nat.reduceEqDiff, Nat.reduceBEq, reduceIte, reduceCtorEq, hd', hge, q, e7]
    exact ih'
theorem wrds_len {c : Cal} (hr : rigCal c = true) : (wrdsC c).length ≤ 7 ∧ (Lib.join (wrdsC c) [32]).length ≤ 70000000 := by
  have h6 := (fS_fit c.op).1
  have hl : (wrdsC c).length ≤ 7 := by simp only [wrdsC, List.length_cons, List.length_map]; omega
  have := join_le (B := 9000000) (sep := [32]) (l := wrdsC c) fun x hx => by
    rcases List.mem_cons.1 hx with rfl | hx
    · have := nmT_len c.op; omega
    · obtain ⟨p, _, rfl⟩ := List.mem_map.1 hx; exact wrd_len hr p
  rw [List.length_singleton] at this
  have : (wrdsC c).length * (9000000 + 1) ≤ 7 * 9000001 := Nat.mul_le_mul hl (Nat.le_refl _)
  exact ⟨hl, by omega⟩
theorem text_run {c : Cal} (hc : okC c) : run U 10 [.agg (encC c)] [] = some (.str ⟨(cTxt c).toArray⟩, []) := by
  have q1 := right_run hc
  have q2 := upU (name_run (op := c.op))
  have q3 := upU forms_run
  rw [run_code (show U 10 = some (.code c_speech_Text) from rfl)]
  unfold cTxt
  cases hr : rigCal c with
  | false =>
    rw [hr] at q1
    rw [if_neg (by simp)]
    clear hc
    obtain ⟨a1, a2, a3, a4, a5, a6, a7, a8, a9, a10, a11⟩ := c
    simp only [encC] at q1 ⊢
    simp (maxSteps := 4000000) -implicitDefEqProofs (disch := (refine id_ok ?_; first | assumption | omega | (simp [go_sem] <;> omega) | with_unfolding_all rfl | decide)) only [go_sem, Nat.reduceAdd, Nat.reduceSub, Nat.reduceMul, Nat.reduceLeDiff, Nat.reduceEqDiff, Nat.reduceBEq, reduceIte, reduceCtorEq, c_speech_Text, q1, Bool.not_false]
  | true =>
    rw [hr] at q1
    rw [if_pos rfl]
    obtain ⟨w1, w2⟩ := wrds_len hr
    have q4 := fm_get (op := c.op) (rcC_of hr).op
    have h0 : 0 ≤ c.op := (rcC_of hr).op.1
    obtain ⟨V, hV, q5⟩ := txt_all hr
    have q6 := fun h => upU (join_run (l := wrdsC c) (sep := [32]) (h := h) (by omega) (by omega))
    simp only [encT] at q5 q4
    generalize wrdsC c = ws at *
    generalize nmT c.op = nm at *
    generalize fmL.map encT = fl at *
    generalize Lib.join ws [32] = J at *
    clear hc hr
    obtain ⟨a1, a2, a3, a4, a5, a6, a7, a8, a9, a10, a11⟩ := c
    simp only [encC] at q1 q2 q3 q4 q5 q6 h0 ⊢
    generalize fS a1 = f at *
    have hfl : (f.map encB).length = f.length := List.length_map ..
    rcases hV with rfl | rfl
    · simp (maxSteps := 4000000) -implicitDefEqProofs (disch := (refine id_ok ?_; first | assumption | omega | (simp [go_sem] <;> omega) | with_unfolding_all rfl | decide)) only [go_sem, Nat.reduceAdd, Nat.reduceSub, Nat.reduceMul, Nat.reduceLeDiff, Nat.reduceEqDiff, Nat.reduceBEq, reduceIte, reduceCtorEq, c_speech_Text, q1, q2, q3, q4, q5, q6, hfl, Bool.not_true]
    · simp (maxSteps := 4000000) -implicitDefEqProofs (disch := (refine id_ok ?_; first | assumption | omega | (simp [go_sem] <;> omega) | with_unfolding_all rfl | decide)) only [go_sem, Nat.reduceAdd, Nat.reduceSub, Nat.reduceMul, Nat.reduceLeDiff, Nat.reduceEqDiff, Nat.reduceBEq, reduceIte, reduceCtorEq, c_speech_Text, q1, q2, q3, q4, q5, q6, hfl, Bool.not_true]
end Go.Proofs.YtibchilpaaiecaaGreatDoor.L
