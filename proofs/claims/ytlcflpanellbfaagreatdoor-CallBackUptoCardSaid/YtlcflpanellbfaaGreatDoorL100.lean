/-
100 (YtlcflpanellbfaaGreatDoorL100): the plain law of sorting: by insertion, then without twins; a list is its own answer just where all of it may be and it rises.
-/
import Derived.Test.YtlcflpanellbfaaGreatDoorL22
set_option linter.all false
namespace Go.Proofs.YtlcflpanellbfaaGreatDoor.L
section
variable {α : Type} [DecidableEq α] (lt : α → α → Bool)
/-- Insertion from the right, on the reversed front. -/
def insV (x : α) : List α → List α
  | [] => [x]
  | y :: ys => if lt x y = true then y :: insV x ys else x :: y :: ys
def srtV (l : List α) : List α := (l.foldl (fun a x => insV lt x a) []).reverse
def cmpt : List α → List α
  | [] => []
  | [x] => [x]
  | x :: y :: r => if x = y then cmpt (y :: r) else x :: cmpt (y :: r)
/-- No one is less than the one ahead; of a reversed list. -/
def AdjR : List α → Prop
  | y :: z :: r => lt y z = false ∧ AdjR (z :: r)
  | _ => True
def AdjF : List α → Prop
  | y :: z :: r => lt z y = false ∧ AdjF (z :: r)
  | _ => True
def Rise : List α → Prop
  | y :: z :: r => lt y z = true ∧ Rise (z :: r)
  | _ => True
theorem insV_mem {x z : α} : ∀ {l : List α}, z ∈ insV lt x l ↔ z = x ∨ z ∈ l
  | [] => by simp [insV]
  | y :: ys => by
    simp only [insV]
    split
    · rw [List.mem_cons, insV_mem, List.mem_cons]
      constructor
      · rintro (h | h | h) <;> simp [h]
      · rintro (h | h | h) <;> simp [h]
    · simp
theorem insV_len {x : α} : ∀ {l : List α}, (insV lt x l).length = l.length + 1
  | [] => rfl
  | y :: ys => by simp only [insV]; split <;> simp [insV_len]
theorem insV_adj (asym : ∀ a b, lt a b = true → lt b a = false) {x : α} : ∀ {l : List α}, AdjR lt l → AdjR lt (insV lt x l)
  | [], _ => by simp [insV, AdjR]
  | y :: ys, h => by
    simp only [insV]
    split
    · rename_i hxy
      have ih := insV_adj asym (x := x) (l := ys) (by cases ys with | nil => simp [AdjR] | cons z r => exact h.2)
      cases ys with
      | nil => simp only [insV, AdjR]; exact ⟨asym _ _ hxy, trivial⟩
      | cons z r =>
        simp only [insV] at ih ⊢
        split at ih
        · rename_i hz; rw [if_pos hz]; exact ⟨h.1, ih⟩
        · rename_i hz; rw [if_neg hz]; exact ⟨asym _ _ hxy, ih⟩
    · rename_i hxy; exact ⟨by simpa using hxy, h⟩
theorem AdjR_rev : ∀ {l m : List α}, AdjR lt l → AdjF lt m → (∀ x y, l.head? = some x → m.head? = some y → lt y x = false) → AdjF lt (l.reverse ++ m)
  | [], m, _, hm, _ => hm
  | x :: l, m, hl, hm, hx => by
    rw [List.reverse_cons, List.append_assoc, List.singleton_append]
    refine AdjR_rev (m := x :: m) ?_ ?_ ?_
    · cases l with | nil => trivial | cons z r => exact hl.2
    · cases m with
      | nil => trivial
      | cons y r => exact ⟨hx x y rfl rfl, hm⟩
    · intro a b ha hb
      cases l with
      | nil => cases ha
      | cons z r => simp only [List.head?_cons, Option.some.injEq] at ha hb; subst ha hb; exact hl.1
theorem fold_adj (asym : ∀ a b, lt a b = true → lt b a = false) : ∀ (l acc : List α), AdjR lt acc → AdjR lt (l.foldl (fun a x => insV lt x a) acc)
  | [], acc, h => h
  | x :: l, acc, h => fold_adj asym l _ (insV_adj lt asym h)
theorem srt_adj (asym : ∀ a b, lt a b = true → lt b a = false) (l : List α) : AdjF lt (srtV lt l) := by
  have := AdjR_rev lt (m := []) (fold_adj lt asym l [] trivial) trivial (by intro x y _ h; cases h)
  rwa [List.append_nil] at this
theorem fold_mem : ∀ (l acc : List α) (z : α), z ∈ l.foldl (fun a x => insV lt x a) acc ↔ z ∈ l ∨ z ∈ acc
  | [], acc, z => by simp
  | x :: l, acc, z => by
    rw [List.foldl_cons, fold_mem l, insV_mem, List.mem_cons]
    constructor
    · rintro (h | h | h) <;> simp [h]
    · rintro ((h | h) | h) <;> simp [h]
theorem srt_mem (l : List α) (z : α) : z ∈ srtV lt l ↔ z ∈ l := by unfold srtV; rw [List.mem_reverse, fold_mem]; simp
theorem fold_id : ∀ (l acc : List α), AdjF lt l → (∀ x y, acc.head? = some x → l.head? = some y → lt y x = false) → l.foldl (fun a x => insV lt x a) acc = l.reverse ++ acc
  | [], acc, _, _ => rfl
  | x :: l, acc, h, h2 => by
    have e : insV lt x acc = x :: acc := by
      cases acc with
      | nil => rfl
      | cons y ys => simp only [insV]; rw [if_neg (by rw [h2 y x rfl rfl]; simp)]
    rw [List.foldl_cons, e, fold_id l (x :: acc) (by cases l with | nil => trivial | cons z r => exact h.2) (by
      intro a b ha hb
      cases l with
      | nil => cases hb
      | cons z r => simp only [List.head?_cons, Option.some.injEq] at ha hb; subst ha hb; exact h.1)]
    simp
theorem srt_id {l : List α} (h : AdjF lt l) : srtV lt l = l := by unfold srtV; rw [fold_id lt l [] h (by intro x y h; cases h)]; simp
theorem cmpt_mem : ∀ {l : List α} {z : α}, z ∈ cmpt l → z ∈ l
  | [], z, h => by simp [cmpt] at h
  | [x], z, h => by simpa [cmpt] using h
  | x :: y :: r, z, h => by
    simp only [cmpt] at h
    split at h
    · exact List.mem_cons_of_mem _ (cmpt_mem h)
    · rcases List.mem_cons.1 h with rfl | h
      · simp
      · exact List.mem_cons_of_mem _ (cmpt_mem h)
theorem cmpt_hd : ∀ (l : List α), (cmpt l).head? = l.head?
  | [] => rfl
  | [x] => rfl
  | x :: y :: r => by
    simp only [cmpt]
    split
    · rename_i h; rw [cmpt_hd (y :: r), h]; rfl
    · rfl
theorem cmpt_id : ∀ {l : List α}, (∀ a, lt a a = false) → Rise lt l → cmpt l = l
  | [], _, _ => rfl
  | [x], _, _ => rfl
  | x :: y :: r, hi, h => by
    simp only [cmpt]
    rw [if_neg (by rintro rfl; have h1 := h.1; rw [hi x] at h1; cases h1), cmpt_id hi h.2]
/-- Neighbours that differ and are in order rise. -/
theorem cmpt_rise' {p : α → Bool} (tot : ∀ a b, a ≠ b → p a = true → p b = true → lt b a = false → lt a b = true) : ∀ {l : List α}, (∀ x ∈ l, p x = true) → AdjF lt l → Rise lt (cmpt l)
  | [], _, _ => trivial
  | [x], _, _ => trivial
  | x :: y :: r, hp, h => by
    have ih := cmpt_rise' tot (l := y :: r) (fun z hz => hp z (List.mem_cons_of_mem _ hz)) h.2
    simp only [cmpt]
    split
    · exact ih
    · rename_i hxy
      have hd := cmpt_hd (y :: r)
      cases hc : cmpt (y :: r) with
      | nil => rw [hc] at hd; cases hd
      | cons z s =>
        rw [hc] at hd ih
        simp only [List.head?_cons, Option.some.injEq] at hd
        subst hd
        exact ⟨tot x z hxy (hp x (by simp)) (hp z (by simp)) h.1, ih⟩
theorem rise_adj (asym : ∀ a b, lt a b = true → lt b a = false) : ∀ {l : List α}, Rise lt l → AdjF lt l
  | [], _ => trivial
  | [x], _ => trivial
  | x :: y :: r, h => ⟨asym _ _ h.1, rise_adj asym h.2⟩
/-- Sorted, without twins, of those that may be, it is itself: exactly where all may be and each is less than the next. -/
theorem sort_self {p : α → Bool} (asym : ∀ a b, lt a b = true → lt b a = false) (irr : ∀ a, lt a a = false) (tot : ∀ a b, a ≠ b → p a = true → p b = true → lt b a = false → lt a b = true) (l : List α) :
    cmpt (srtV lt (l.filter p)) = l ↔ (∀ x ∈ l, p x = true) ∧ Rise lt l := by
  constructor
  · intro h
    have hp : ∀ x ∈ l, p x = true := fun x hx => by
      rw [← h] at hx
      have := (srt_mem lt (l.filter p) x).1 (cmpt_mem hx)
      exact (List.mem_filter.1 this).2
    refine ⟨hp, ?_⟩
    rw [← h]
    refine cmpt_rise' lt tot (p := p) (fun x hx => ?_) (srt_adj lt asym _)
    exact (List.mem_filter.1 ((srt_mem lt _ x).1 hx)).2
  · rintro ⟨hp, hr⟩
    rw [List.filter_eq_self.2 hp, srt_id lt (rise_adj lt asym hr), cmpt_id lt irr hr]
end
end Go.Proofs.YtlcflpanellbfaaGreatDoor.L

/- Sorting names in a box: the walks of DeleteFunc, SortFunc (by insertion: few names) and Compact. -/
set_option linter.all false
namespace Go.Proofs.YtlcflpanellbfaaGreatDoor.L
open Go.Proofs.YtlcflpanellbfaaGreatDoor.M Go.Proofs.YtlcflpanellbfaaGreatDoor.F Go.Proofs

def sA (s : List UInt8) : AV := .str ⟨s.toArray⟩
def Sx (L : List (List UInt8)) : Bx := .cells (L.map sA)
def shS (L : List (List UInt8)) : Prop := ∀ s ∈ L, s.length ≤ 281474976710656
def fnC : AV := .fn (.func 103) [] []
def fnD : AV := .fn (.func 105) [] []
def ltC (a b : List UInt8) : Bool := decide (comC a b < 0)
theorem ixn {i : Nat} : 0 + ((i : Int)).toNat * 1 = i := by rw [Int.toNat_natCast]; omega
theorem tks {α : Type} {l : List α} {i : Nat} {v : α} (h : i < l.length) : l.take i ++ v :: l.drop (i + 1) = l.set i v := by rw [List.set_eq_take_append_cons_drop, if_pos h]
theorem map_at {α β : Type} {f : α → β} {A : List α} {x : α} {B : List α} {i : Nat} (h : i = A.length) : ((A ++ x :: B).map f)[i]? = some (f x) := by subst h; simp
theorem map_set' {α β : Type} {f : α → β} {A : List α} {x y : α} {B : List α} {i : Nat} (h : i = A.length) : ((A ++ x :: B).map f).set i (f y) = (A ++ y :: B).map f := by subst h; simp
theorem up1 {i : Nat} (h : i ≤ 1000000) : IntKind.i64.wrap ((i : Int) + 1) = ((i + 1 : Nat) : Int) := by rw [w64 (by omega) (by omega)]; rfl
theorem dn1 {i : Nat} (h : i ≤ 1000000) : IntKind.i64.wrap (((i + 1 : Nat) : Int) - 1) = (i : Int) := by rw [w64 (by omega) (by omega)]; omega

theorem gc_one {a b : Bx} {r : AV} : gc [a] r [b] = some (r, [b]) := gc_len (Nat.le_refl _)
/-! ### insertion -/
theorem ins_loop {n : Nat} {v8 : AV} (hn : n ≤ 1000) : ∀ (ys : List (List UInt8)) (x : List UInt8) (tl : List (List UInt8)), ys.length < n → shS ys → x.length ≤ 281474976710656 →
    den T (.loop l_slices_insertionSortCmpFunc_string_1) (s_slices_insertionSortCmpFunc_string_1 (.bs 0 0 n none) (.int .i64 0) (.int .i64 n) fnC v8 (.int .i64 ys.length)) [Sx (ys.reverse ++ x :: tl)]
      = some (.exit 2, x_slices_insertionSortCmpFunc_string_2 (.bs 0 0 n none) (.int .i64 0) (.int .i64 n) fnC v8, [Sx ((insV ltC x ys).reverse ++ tl)]) := by
  intro ys
  induction ys with
  | nil =>
    intro x tl hl _ hx
    have e1 : decide ((0 : Int) > 0) = false := rfl
    simp only [insV, List.reverse_nil, List.nil_append, List.reverse_cons, List.cons_append, List.length_nil, show ((0 : Nat) : Int) = 0 from rfl]
    rw [lp_round]
    simp -implicitDefEqProofs (disch := (refine id_ok ?_; first | assumption | omega | (simp only [go_sem, List.size_toArray, List.length_map, List.length_append, List.length_take, List.length_drop, List.length_cons, List.length_nil, mrLL_app, keyD_i, keyD_s, keyD_b, Nat.reduceAdd, Nat.reduceEqDiff, Nat.reduceLeDiff] <;> omega) | with_unfolding_all rfl | decide)) only [go_sem, Nat.reduceAdd, Nat.reduceSub, Nat.reduceMul, Nat.reduceLeDiff, Nat.reduceEqDiff, Nat.reduceBEq, reduceIte, reduceCtorEq, e1]
  | cons y ys ih =>
    intro x tl hl hs hx
    have hy := hs y (by simp)
    have ih' := ih x (y :: tl) (by simp at hl; omega) (fun s hq => hs s (by simp [hq])) hx
    have hL : (y :: ys).reverse ++ x :: tl = ys.reverse ++ y :: x :: tl := by simp
    rw [hL]
    simp only [List.length_cons]
    have hl' : ys.length + 1 < n := by simpa using hl
    have gx : ((ys.reverse ++ y :: x :: tl).map sA)[ys.length + 1]? = some (.str ⟨x.toArray⟩) := by
      rw [show ys.reverse ++ y :: x :: tl = (ys.reverse ++ [y]) ++ x :: tl by simp]; exact map_at (by simp)
    have gy : ((ys.reverse ++ y :: x :: tl).map sA)[ys.length]? = some (.str ⟨y.toArray⟩) := map_at (by simp)
    have hM : ((ys.reverse ++ y :: x :: tl).map sA).length = ys.length + 2 + tl.length := by simp; omega
    have hset : (((ys.reverse ++ y :: x :: tl).map sA).set (ys.length + 1) (.str ⟨y.toArray⟩)).set ys.length (.str ⟨x.toArray⟩) = (ys.reverse ++ x :: y :: tl).map sA := by
      have := map_set' (f := sA) (A := ys.reverse ++ [y]) (x := x) (y := y) (B := tl) (i := ys.length + 1) (by simp)
      rw [show ys.reverse ++ y :: x :: tl = (ys.reverse ++ [y]) ++ x :: tl by simp]
      show (((ys.reverse ++ [y] ++ x :: tl).map sA).set (ys.length + 1) (sA y)).set ys.length (sA x) = _
      rw [this, show ys.reverse ++ [y] ++ y :: tl = ys.reverse ++ y :: y :: tl by simp]
      exact map_set' (by simp)
    have hc := comC_run (a := x) (b := y) (h := [Sx (ys.reverse ++ y :: x :: tl)]) hx hy
    unfold Sx at hc ih' ⊢
    generalize hMM : (ys.reverse ++ y :: x :: tl).map sA = M at *
    have e1 : decide (((ys.length + 1 : Nat) : Int) > 0) = true := decide_eq_true (by omega)
    have e2 : IntKind.i64.wrap (((ys.length + 1 : Nat) : Int) - 1) = (ys.length : Int) := dn1 (by omega)
    have i1 : ((ys.length + 1 : Nat) : Int) < (n : Int) := by omega
    have i2 : ((ys.length : Nat) : Int) < (n : Int) := by omega
    have i3 : (0 : Int) ≤ ((ys.length + 1 : Nat) : Int) := by omega
    have i4 : (0 : Int) ≤ ((ys.length : Nat) : Int) := by omega
    by_cases hlt : comC x y < 0
    · have e3 : decide (comC x y < 0) = true := decide_eq_true hlt
      have b1 : Nat.ble (ys.length + 1 + 1) M.length = true := Nat.ble_eq_true_of_le (by omega)
      have b2 : Nat.ble (ys.length + 1) (M.set (ys.length + 1) (.str ⟨y.toArray⟩)).length = true := Nat.ble_eq_true_of_le (by simp; omega)
      have t1 : M.take (ys.length + 1) ++ AV.str ⟨y.toArray⟩ :: M.drop (ys.length + 1 + 1) = M.set (ys.length + 1) (.str ⟨y.toArray⟩) := tks (by omega)
      have t2 : (M.set (ys.length + 1) (.str ⟨y.toArray⟩)).take ys.length ++ AV.str ⟨x.toArray⟩ :: (M.set (ys.length + 1) (.str ⟨y.toArray⟩)).drop (ys.length + 1) = (M.set (ys.length + 1) (.str ⟨y.toArray⟩)).set ys.length (.str ⟨x.toArray⟩) := tks (by simp; omega)
      generalize hj : ys.length + 1 = j at *
      generalize ys.length = i at *
      simp only [insV, ltC, e3, if_true]
      rw [List.reverse_cons, List.append_assoc]
      rw [lp_round]
      have b2' : Nat.ble (i + 1) (M.set j (.str ⟨y.toArray⟩)).length = true := by rw [hj]; exact b2
      have t2' : (M.set j (.str ⟨y.toArray⟩)).take i ++ AV.str ⟨x.toArray⟩ :: (M.set j (.str ⟨y.toArray⟩)).drop (i + 1) = (M.set j (.str ⟨y.toArray⟩)).set i (.str ⟨x.toArray⟩) := by rw [hj]; exact t2
      simp (maxSteps := 2000000) -implicitDefEqProofs (disch := (refine id_ok ?_; first | assumption | omega | (simp only [go_sem, List.size_toArray, List.length_map, List.length_append, List.length_take, List.length_drop, List.length_cons, List.length_nil, mrLL_app, keyD_i, keyD_s, keyD_b, Nat.reduceAdd, Nat.reduceEqDiff, Nat.reduceLeDiff] <;> omega) | with_unfolding_all rfl | decide)) only [go_sem, Nat.reduceAdd, Nat.reduceSub, Nat.reduceMul, Nat.reduceLeDiff, Nat.reduceEqDiff, Nat.reduceBEq, reduceIte, reduceCtorEq, fnC, e1, e2, ixn, gx, gy, hc, e3, b1, t1, b2', t2', hset]
      exact ih'
    · have e3 : decide (comC x y < 0) = false := decide_eq_false hlt
      generalize hj : ys.length + 1 = j at *
      generalize ys.length = i at *
      simp only [insV, ltC, e3, Bool.false_eq_true, if_false]
      rw [show (x :: y :: ys).reverse ++ tl = ys.reverse ++ y :: x :: tl by simp, hMM]
      rw [lp_round]
      simp (maxSteps := 2000000) -implicitDefEqProofs (disch := (refine id_ok ?_; first | assumption | omega | (simp only [go_sem, List.size_toArray, List.length_map, List.length_append, List.length_take, List.length_drop, List.length_cons, List.length_nil, mrLL_app, keyD_i, keyD_s, keyD_b, Nat.reduceAdd, Nat.reduceEqDiff, Nat.reduceLeDiff] <;> omega) | with_unfolding_all rfl | decide)) only [go_sem, Nat.reduceAdd, Nat.reduceSub, Nat.reduceMul, Nat.reduceLeDiff, Nat.reduceEqDiff, Nat.reduceBEq, reduceIte, reduceCtorEq, fnC, e1, e2, ixn, gx, gy, hc, e3]
/-- All that is left is put in, one after another. -/
theorem inss_loop {n : Nat} {pad : List (List UInt8)} (hn : n ≤ 1000) : ∀ (rest rev : List (List UInt8)), rev.length + rest.length = n → 0 < rev.length ∨ rest = [] → shS rev → shS rest →
    den T (.loop l_slices_insertionSortCmpFunc_string_0) (s_slices_insertionSortCmpFunc_string_0 (.bs 0 0 n none) (.int .i64 0) (.int .i64 n) fnC (.int .i64 (rev.length : Nat))) [Sx (rev.reverse ++ (rest ++ pad))]
      = some (.exit 0, x_slices_insertionSortCmpFunc_string_0, [Sx ((rest.foldl (fun a x => insV ltC x a) rev).reverse ++ pad)]) := by
  intro rest
  induction rest with
  | nil =>
    intro rev hl _ _ _
    have e1 : decide ((rev.length : Int) < (n : Int)) = false := decide_eq_false (by simp at hl; omega)
    simp only [List.foldl_nil, List.nil_append]
    rw [lp_round]
    simp -implicitDefEqProofs (disch := (refine id_ok ?_; first | assumption | omega | (simp only [go_sem, List.size_toArray, List.length_map, List.length_append, List.length_take, List.length_drop, List.length_cons, List.length_nil, mrLL_app, keyD_i, keyD_s, keyD_b, Nat.reduceAdd, Nat.reduceEqDiff, Nat.reduceLeDiff] <;> omega) | with_unfolding_all rfl | decide)) only [go_sem, Nat.reduceAdd, Nat.reduceSub, Nat.reduceMul, Nat.reduceLeDiff, Nat.reduceEqDiff, Nat.reduceBEq, reduceIte, reduceCtorEq, e1]
  | cons x rest ih =>
    intro rev hl hr hsr hs
    have hx := hs x (by simp)
    have hl' : rev.length + 1 + rest.length = n := by simp at hl; omega
    have hil : (insV ltC x rev).length = rev.length + 1 := insV_len ltC
    have ih' := ih (insV ltC x rev) (by omega) (.inl (by omega)) (fun s hq => by
      rcases (insV_mem ltC).1 hq with rfl | hq
      · exact hx
      · exact hsr s hq) (fun s hq => hs s (by simp [hq]))
    have e1 : decide ((rev.length : Int) < (n : Int)) = true := decide_eq_true (by omega)
    have e2 : IntKind.i64.wrap ((rev.length : Int) + 1) = ((rev.length + 1 : Nat) : Int) := up1 (by omega)
    have hin := ins_loop (n := n) (v8 := .int .i64 rev.length) hn rev x (rest ++ pad) (by omega) hsr hx
    rw [hil] at ih'
    simp only [List.foldl_cons, List.cons_append]
    rw [lp_round]
    simp (maxSteps := 2000000) -implicitDefEqProofs (disch := (refine id_ok ?_; first | assumption | omega | (simp only [go_sem, List.size_toArray, List.length_map, List.length_append, List.length_take, List.length_drop, List.length_cons, List.length_nil, mrLL_app, keyD_i, keyD_s, keyD_b, Nat.reduceAdd, Nat.reduceEqDiff, Nat.reduceLeDiff] <;> omega) | with_unfolding_all rfl | decide)) only [go_sem, Nat.reduceAdd, Nat.reduceSub, Nat.reduceMul, Nat.reduceLeDiff, Nat.reduceEqDiff, Nat.reduceBEq, reduceIte, reduceCtorEq, e1, hin, e2]
    exact ih'
theorem insS_run {n : Nat} {l pad : List (List UInt8)} (hn : l.length = n) (h8 : n ≤ 1000) (hs : shS l) :
    run T 124 [.bs 0 0 n none, .int .i64 0, .int .i64 n, fnC] [Sx (l ++ pad)] = some (.tup [], [Sx (srtV ltC l ++ pad)]) := by
  rw [run_code T_124]
  have e0 : IntKind.i64.wrap ((0 : Int) + 1) = 1 := rfl
  cases l with
  | nil =>
    have e1 : decide ((1 : Int) < (n : Int)) = false := decide_eq_false (by simp at hn; omega)
    have h1 : den T (.loop l_slices_insertionSortCmpFunc_string_0) (s_slices_insertionSortCmpFunc_string_0 (.bs 0 0 n none) (.int .i64 0) (.int .i64 n) fnC (.int .i64 1)) [Sx ([] ++ pad)] = some (.exit 0, x_slices_insertionSortCmpFunc_string_0, [Sx ([] ++ pad)]) := by
      rw [lp_round]
      simp -implicitDefEqProofs (disch := (refine id_ok ?_; first | assumption | omega | (simp only [go_sem, List.size_toArray, List.length_map, List.length_append, List.length_take, List.length_drop, List.length_cons, List.length_nil, mrLL_app, keyD_i, keyD_s, keyD_b, Nat.reduceAdd, Nat.reduceEqDiff, Nat.reduceLeDiff] <;> omega) | with_unfolding_all rfl | decide)) only [go_sem, Nat.reduceAdd, Nat.reduceSub, Nat.reduceMul, Nat.reduceLeDiff, Nat.reduceEqDiff, Nat.reduceBEq, reduceIte, reduceCtorEq, e1]
    simp only [srtV, List.foldl_nil, List.reverse_nil]
    simp (maxSteps := 2000000) -implicitDefEqProofs (disch := (refine id_ok ?_; first | assumption | omega | (simp only [go_sem, List.size_toArray, List.length_map, List.length_append, List.length_take, List.length_drop, List.length_cons, List.length_nil, mrLL_app, keyD_i, keyD_s, keyD_b, Nat.reduceAdd, Nat.reduceEqDiff, Nat.reduceLeDiff] <;> omega) | with_unfolding_all rfl | decide)) only [go_sem, Nat.reduceAdd, Nat.reduceSub, Nat.reduceMul, Nat.reduceLeDiff, Nat.reduceEqDiff, Nat.reduceBEq, reduceIte, reduceCtorEq, c_slices_insertionSortCmpFunc_string, fnC, e0] at h1 ⊢
    simp (maxSteps := 2000000) -implicitDefEqProofs (disch := (refine id_ok ?_; first | assumption | omega | (simp only [go_sem, List.size_toArray, List.length_map, List.length_append, List.length_take, List.length_drop, List.length_cons, List.length_nil, mrLL_app, keyD_i, keyD_s, keyD_b, Nat.reduceAdd, Nat.reduceEqDiff, Nat.reduceLeDiff] <;> omega) | with_unfolding_all rfl | decide)) only [go_sem, Nat.reduceAdd, Nat.reduceSub, Nat.reduceMul, Nat.reduceLeDiff, Nat.reduceEqDiff, Nat.reduceBEq, reduceIte, reduceCtorEq, h1, gc_one]
  | cons x r =>
    have h1 := inss_loop (n := n) (pad := pad) h8 r [x] (by simp at hn ⊢; omega) (.inl (by simp)) (fun s hq => hs s (by simp at hq; simp [hq])) (fun s hq => hs s (by simp [hq]))
    have e1 : (r.foldl (fun a x => insV ltC x a) [x]).reverse = srtV ltC (x :: r) := by simp [srtV, insV]
    rw [e1] at h1
    simp only [List.length_cons, List.length_nil, List.reverse_cons, List.reverse_nil, List.nil_append, List.cons_append, show ((0 + 1 : Nat) : Int) = 1 from rfl] at h1
    simp (maxSteps := 2000000) -implicitDefEqProofs (disch := (refine id_ok ?_; first | assumption | omega | (simp only [go_sem, List.size_toArray, List.length_map, List.length_append, List.length_take, List.length_drop, List.length_cons, List.length_nil, mrLL_app, keyD_i, keyD_s, keyD_b, Nat.reduceAdd, Nat.reduceEqDiff, Nat.reduceLeDiff] <;> omega) | with_unfolding_all rfl | decide)) only [go_sem, Nat.reduceAdd, Nat.reduceSub, Nat.reduceMul, Nat.reduceLeDiff, Nat.reduceEqDiff, Nat.reduceBEq, reduceIte, reduceCtorEq, c_slices_insertionSortCmpFunc_string, fnC, e0] at h1 ⊢
    simp (maxSteps := 2000000) -implicitDefEqProofs (disch := (refine id_ok ?_; first | assumption | omega | (simp only [go_sem, List.size_toArray, List.length_map, List.length_append, List.length_take, List.length_drop, List.length_cons, List.length_nil, mrLL_app, keyD_i, keyD_s, keyD_b, Nat.reduceAdd, Nat.reduceEqDiff, Nat.reduceLeDiff] <;> omega) | with_unfolding_all rfl | decide)) only [go_sem, Nat.reduceAdd, Nat.reduceSub, Nat.reduceMul, Nat.reduceLeDiff, Nat.reduceEqDiff, Nat.reduceBEq, reduceIte, reduceCtorEq, h1, gc_one]
set_option maxRecDepth 100000 in
theorem pdq_run {n : Nat} {k : Int} {l pad : List (List UInt8)} (hn : l.length = n) (h8 : n ≤ 12) (hs : shS l) :
    run T 116 [.bs 0 0 n none, .int .i64 0, .int .i64 n, .int .i64 k, fnC] [Sx (l ++ pad)] = some (.tup [], [Sx (srtV ltC l ++ pad)]) := by
  have h1 := insS_run (pad := pad) hn (by omega) hs
  have e1 : IntKind.i64.wrap ((n : Int) - 0) = (n : Int) := w64 (by omega) (by omega) |>.trans (by omega)
  have e2 : decide ((n : Int) ≤ 12) = true := decide_eq_true (by omega)
  rw [run_code T_116]
  simp only [fnC] at h1 ⊢
  simp (maxSteps := 4000000) -implicitDefEqProofs (disch := (refine id_ok ?_; first | assumption | omega | (simp only [go_sem, List.size_toArray, List.length_map, List.length_append, List.length_take, List.length_drop, List.length_cons, List.length_nil, mrLL_app, keyD_i, keyD_s, keyD_b, Nat.reduceAdd, Nat.reduceEqDiff, Nat.reduceLeDiff] <;> omega) | with_unfolding_all rfl | decide)) only [go_sem, Nat.reduceAdd, Nat.reduceSub, Nat.reduceMul, Nat.reduceLeDiff, Nat.reduceEqDiff, Nat.reduceBEq, reduceIte, reduceCtorEq, c_slices_pdqsortCmpFunc_string, lp_round, e1, e2, h1, gc_one]
theorem blen_run : ∀ {n : Nat}, n ≤ 8 → ∃ k : Int, run T 117 [.int .u64 n] [] = some (.int .i64 k, [])
  | 0, _ => ⟨0, run_of (n := 60) (by kernel_rfl)⟩
  | 1, _ => ⟨1, run_of (n := 60) (by kernel_rfl)⟩
  | 2, _ => ⟨2, run_of (n := 60) (by kernel_rfl)⟩
  | 3, _ => ⟨2, run_of (n := 60) (by kernel_rfl)⟩
  | 4, _ => ⟨3, run_of (n := 60) (by kernel_rfl)⟩
  | 5, _ => ⟨3, run_of (n := 60) (by kernel_rfl)⟩
  | 6, _ => ⟨3, run_of (n := 60) (by kernel_rfl)⟩
  | 7, _ => ⟨3, run_of (n := 60) (by kernel_rfl)⟩
  | 8, _ => ⟨4, run_of (n := 60) (by kernel_rfl)⟩
  | n + 9, h => by omega
theorem wu64 {n : Nat} (h : n ≤ 1000) : IntKind.u64.wrap (n : Int) = (n : Int) := by
  simp [IntKind.wrap, IntKind.bits, IntKind.signed]
  omega
theorem sortF_run {n : Nat} {l pad : List (List UInt8)} (hn : l.length = n) (h8 : n ≤ 8) (hs : shS l) :
    run T 106 [.bs 0 0 n none, fnC] [Sx (l ++ pad)] = some (.tup [], [Sx (srtV ltC l ++ pad)]) := by
  obtain ⟨k, hk⟩ := blen_run h8
  have h1 := pdq_run (k := k) (pad := pad) hn (by omega) hs
  have e1 := wu64 (n := n) (by omega)
  rw [run_code T_106]
  simp only [fnC] at h1 ⊢
  simp (maxSteps := 4000000) -implicitDefEqProofs (disch := (refine id_ok ?_; first | assumption | omega | (simp only [go_sem, List.size_toArray, List.length_map, List.length_append, List.length_take, List.length_drop, List.length_cons, List.length_nil, mrLL_app, keyD_i, keyD_s, keyD_b, Nat.reduceAdd, Nat.reduceEqDiff, Nat.reduceLeDiff] <;> omega) | with_unfolding_all rfl | decide)) only [go_sem, Nat.reduceAdd, Nat.reduceSub, Nat.reduceMul, Nat.reduceLeDiff, Nat.reduceEqDiff, Nat.reduceBEq, reduceIte, reduceCtorEq, c_slices_SortFunc_string_string, e1, hk, h1, gc_one]
end Go.Proofs.YtlcflpanellbfaaGreatDoor.L
