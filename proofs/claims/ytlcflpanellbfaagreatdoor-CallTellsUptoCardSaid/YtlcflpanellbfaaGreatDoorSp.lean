/- The iterator of strings.SplitSeq, at a separator of one byte: its contract. -/
import Derived.Test.YtlcflpanellbfaaGreatDoorM20
import Derived.Test.YtlcflpanellbfaaGreatDoorSh
import Derived.RangeFuncNested
import Derived.RangeFuncCalls
import Derived.RangeFuncLeaves
import Derived.Shelf.Abstract
import Derived.WalkKit
import Derived.OwnWalkIn
import Derived.TacticsInMore
import Derived.LoopNIn
import Derived.LoopIn
set_option linter.all false
namespace Go.Proofs.YtlcflpanellbfaaGreatDoor.F
open Go.Proofs.YtlcflpanellbfaaGreatDoor.M Go.Proofs Go.RowKit Go.Shelf Go
attribute [local go_sem] Oper.semAt_some
theorem idx_lt : ∀ (l : List UInt8) (c : UInt8), (Lib.indexByte l c = -1 ∧ splitP c l = [(l, l)]) ∨ ∃ i : Nat, Lib.indexByte l c = i ∧ i < l.length ∧ splitP c l = (l.take i, l) :: splitP c (l.drop (i + 1))
  | [], c => .inl ⟨rfl, rfl⟩
  | b :: l, c => by
    by_cases hb : b = c
    · subst hb
      exact .inr ⟨0, by simp [Lib.indexByte], by simp, by simp [splitP]⟩
    · have hb' : (b == c) = false := by simpa using hb
      rcases idx_lt l c with ⟨h1, h2⟩ | ⟨i, h1, h2, h3⟩
      · exact .inl ⟨by simp [Lib.indexByte, hb', h1], by simp [splitP, hb, h2]⟩
      · refine .inr ⟨i + 1, ?_, by simp; omega, ?_⟩
        · have : ((i : Int) == -1) = false := by simp
          simp [Lib.indexByte, hb', h1, this]
        · simp [splitP, hb, h3]
def leftS (bs : Nat) (W : World) : Nat := match W.cell? ⟨bs, 0, none⟩ with | some (.string s) => s.size | _ => 0
set_option maxHeartbeats 4000000 in
set_option maxRecDepth 100000 in
theorem split_ok : SplitFn Tryz.prog 138 := by
  refine ⟨enters_of Tryz.func138 (by kernel_rfl) rfl, fun l bp bs bv c A B Jx hne1 hne2 hA hB s W hlen hS => ?_⟩
  refine callsIn_of_wp Tryz.func138 rfl trivial ?_ rfl
  simp only [Tryz.ntmps138, List.size_toArray, List.length_cons, List.length_nil, Nat.reduceAdd, Nat.reduceSub, Array.replicate_succ, Array.replicate_zero, List.push_toArray, List.append_toArray, List.nil_append, List.cons_append]
  obtain ⟨x0, xs0, hsp0⟩ := splitP_cons c s
  have hS0 := hS
  rw [hsp0] at hS0
  obtain ⟨it0, _⟩ := hA _ _ _ _ hS0
  have c1 := it0.p; have c2 := it0.s; have c3 := it0.v
  gi_wp2
  gi_loopw [] (fun (wr : World) => ∃ x r xs, A ((x, r) :: xs) wr ∧ splitP c r = (x, r) :: xs ∧ r.length ≤ 4611686018427387904) (fun (wr : World) => leftS bs wr)
  case atStart => exact ⟨x0, s, xs0, hS0, hsp0, hlen⟩
  case round =>
    obtain ⟨x, r, xs, hAr, hsp, hr⟩ := hrel
    obtain ⟨it, hy⟩ := hA _ _ _ _ hAr
    have c1 := it.p; have c2 := it.s; have c3 := it.v
    obtain ⟨fn, tmps, assign, body, hyr, hR⟩ := hy
    have hI0 := Tryz.strings_Index_one ⟨r.toArray⟩ c wr
    rcases idx_lt r c with ⟨h1, h2⟩ | ⟨i, h1, h2, h3⟩
    · have hI : Calls Tryz.prog 140 #[.string ⟨r.toArray⟩, .string ⟨#[c]⟩] wr (fun e w' => e = .returned (.int .i64 (-1)) ∧ w' = wr) := by simpa [h1] using hI0
      clear hI0
      rw [h2] at hsp
      simp only [List.cons.injEq, Prod.mk.injEq, and_true] at hsp
      obtain ⟨rfl, rfl⟩ := hsp
      gi_wp2_with (refine ⟨trivial, rfl, ?_⟩; gi_at_call 140; refine (callsIn_wide.2 hI).mono ?_; rintro e w' ⟨rfl, rfl⟩)
      refine ⟨rfl, hR.mono ?_⟩
      rintro e W' (⟨rfl, hB'⟩ | ⟨rfl, hJ'⟩)
      · gi_wp2
        go_end0
        exact ⟨⟨_, rfl⟩, .inl ⟨_, _, hB'⟩⟩
      · gi_wp2
        go_end0
        exact ⟨⟨_, rfl⟩, .inr hJ'⟩
    · have hI : Calls Tryz.prog 140 #[.string ⟨r.toArray⟩, .string ⟨#[c]⟩] wr (fun e w' => e = .returned (.int .i64 (i : Int)) ∧ w' = wr) := by simpa [h1] using hI0
      clear hI0
      have hlt : ¬ ((i : Int) < 0) := by omega
      rw [h3] at hsp
      simp only [List.cons.injEq, Prod.mk.injEq, and_true] at hsp
      obtain ⟨rfl, rfl⟩ := hsp
      have hx : (⟨(r.take i).toArray⟩ : ByteArray) = (ByteArray.mk r.toArray).extract 0 i := by
        apply ByteArray.ext
        simp [ByteArray.data_extract]
      rw [hx] at hyr
      gi_wp2_with (refine ⟨trivial, rfl, ?_⟩; gi_at_call 140; refine (callsIn_wide.2 hI).mono ?_; rintro e w' ⟨rfl, rfl⟩)
      refine ⟨rfl, hR.mono ?_⟩
      rintro e W' (⟨rfl, hB'⟩ | ⟨rfl, hJ'⟩)
      · obtain ⟨it', hnext⟩ := hB _ _ _ _ hB'
        have c1 := it'.p; have c2 := it'.s; have c3 := it'.v; have c4 := it'.f
        obtain ⟨x2, xs2, hsp2⟩ := splitP_cons c (r.drop (i + 1))
        have hx2 : (ByteArray.mk r.toArray).extract (i + 1) r.length = ⟨(r.drop (i + 1)).toArray⟩ := by
          apply ByteArray.ext
          apply Array.ext'
          simp [ByteArray.data_extract, List.take_of_length_le]
        gi_wp2
        go_roundw
        case rel =>
          have := hnext x2 _ xs2 hsp2
          rw [hsp2] at this
          exact ⟨x2, r.drop (i + 1), xs2, this, hsp2, by simp; omega⟩
        case measure =>
          have e1 : leftS bs w' = r.length := by unfold leftS; rw [it.s]; rfl
          have e2 : ∀ v, leftS bs (W'.setCell ⟨bs, 0, none⟩ (.string v)) = v.size := fun v => by
            unfold leftS; rw [World.cell?_setCell_same' _ _ _ (by rw [it'.s]; rfl)]
          rw [e1, e2]
          show (r.drop (i + 1)).toArray.size < r.length
          simp; omega
      · gi_wp2
        refine bodyPost_ret (results_none rfl _ _ _) rfl ?_
        exact ⟨⟨_, rfl⟩, .inr hJ'⟩
end Go.Proofs.YtlcflpanellbfaaGreatDoor.F
