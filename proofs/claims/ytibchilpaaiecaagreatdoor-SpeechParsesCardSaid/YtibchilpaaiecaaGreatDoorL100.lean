/-
100 (YtibchilpaaiecaaGreatDoorL100): the plain law of sorting: by insertion, then without twins; a list is its own answer just where all of it may be and it rises.
-/
import Derived.Test.YtibchilpaaiecaaGreatDoorL22
set_option linter.all false
namespace Go.Proofs.YtibchilpaaiecaaGreatDoor.L
section
variable {α : Type} [DecidableEq α] (lt : α → α → Bool)
def insV (x : α) : List α → List α
 | [] => [x]
 | y :: ys => if lt x y = true then y :: insV x ys else x :: y :: ys
def srtV (l : List α) : List α := (l.foldl (fun a x => insV lt x a) []).reverse
def cmpt : List α → List α
 | [] => []
 | [x] => [x]
 | x :: y :: r => if x = y then cmpt (y :: r) else x :: cmpt (y :: r)
def AdjR : List α → Prop
 | y :: z :: r => lt y z = false ∧ AdjR (z :: r)
 | _ => True
def AdjF : List α → Prop
 | y :: z :: r => lt z y = false ∧ AdjF (z :: r)
 | _ => True
def Rise : List α → Prop
 | y :: z :: r => lt y z = true ∧ Rise (z :: r)
 | _ => True
theorem sI {x z : α} : ∀ {l : List α}, z ∈ insV lt x l ↔ z = x ∨ z ∈ l
 | [] => by simp [insV]
 | y :: ys => by
  simp only [insV]
  split
  ·rw [List.mem_cons, sI, List.mem_cons]
   constructor
   ·rintro (h | h | h) <;> simp [h]
   ·rintro (h | h | h) <;> simp [h]
  ·simp
theorem sJ {x : α} : ∀ {l : List α}, (insV lt x l).length = l.length + 1
 | [] => rfl
 | y :: ys => by simp only [insV]; split <;> simp [sJ]
theorem xg (asym : ∀ a b, lt a b = true → lt b a = false) {x : α} : ∀ {l : List α}, AdjR lt l → AdjR lt (insV lt x l)
 | [], _ => by simp [insV, AdjR]
 | y :: ys, h => by
  simp only [insV]
  split
  ·rename_i hxy
   have ih := xg asym (x := x) (l := ys) (by cases ys with | nil => simp [AdjR] | cons z r => exact h.2)
   cases ys with
   | nil => simp only [insV, AdjR]; exact ⟨asym _ _ hxy, trivial⟩
   | cons z r =>
    simp only [insV] at ih ⊢
    split at ih
    ·rename_i hz; rw [if_pos hz]; exact ⟨h.1, ih⟩
    ·rename_i hz; rw [if_neg hz]; exact ⟨asym _ _ hxy, ih⟩
  ·rename_i hxy; exact ⟨by simpa using hxy, h⟩
theorem xh : ∀ {l m : List α}, AdjR lt l → AdjF lt m → (∀ x y, l.head? = some x → m.head? = some y → lt y x = false) → AdjF lt (l.reverse ++ m)
 | [], m, _, hm, _ => hm
 | x :: l, m, hl, hm, hx => by
  rw [List.reverse_cons, List.append_assoc, List.singleton_append]
  refine xh (m := x :: m) ?_ ?_ ?_
  ·cases l with | nil => trivial | cons z r => exact hl.2
  ·cases m with
   | nil => trivial
   | cons y r => exact ⟨hx x y rfl rfl, hm⟩
  ·intro a b ha hb
   cases l with
   | nil => cases ha
   | cons z r => simp only [List.head?_cons, Option.some.injEq] at ha hb; subst ha hb; exact hl.1
theorem xi (asym : ∀ a b, lt a b = true → lt b a = false) : ∀ (l acc : List α), AdjR lt acc → AdjR lt (l.foldl (fun a x => insV lt x a) acc)
 | [], acc, h => h
 | x :: l, acc, h => xi asym l _ (xg lt asym h)
theorem Hu (asym : ∀ a b, lt a b = true → lt b a = false) (l : List α) : AdjF lt (srtV lt l) := by
 have := xh lt (m := []) (xi lt asym l [] trivial) trivial (by intro x y _ h; cases h)
 rwa [List.append_nil] at this
theorem xj : ∀ (l acc : List α) (z : α), z ∈ l.foldl (fun a x => insV lt x a) acc ↔ z ∈ l ∨ z ∈ acc
 | [], acc, z => by simp
 | x :: l, acc, z => by
  rw [List.foldl_cons, xj l, sI, List.mem_cons]
  constructor
  ·rintro (h | h | h) <;> simp [h]
  ·rintro ((h | h) | h) <;> simp [h]
theorem vT (l : List α) (z : α) : z ∈ srtV lt l ↔ z ∈ l := by unfold srtV; rw [List.mem_reverse, xj]; simp
theorem Bm : ∀ (l acc : List α), AdjF lt l → (∀ x y, acc.head? = some x → l.head? = some y → lt y x = false) → l.foldl (fun a x => insV lt x a) acc = l.reverse ++ acc
 | [], acc, _, _ => rfl
 | x :: l, acc, h, h2 => by
  have e : insV lt x acc = x :: acc := by
   cases acc with
   | nil => rfl
   | cons y ys => simp only [insV]; rw [if_neg (by rw [h2 y x rfl rfl]; simp)]
  rw [List.foldl_cons, e, Bm l (x :: acc) (by cases l with | nil => trivial | cons z r => exact h.2) (by
   intro a b ha hb
   cases l with
   | nil => cases hb
   | cons z r => simp only [List.head?_cons, Option.some.injEq] at ha hb; subst ha hb; exact h.1)]
  simp
theorem J7 {l : List α} (h : AdjF lt l) : srtV lt l = l := by unfold srtV; rw [Bm lt l [] h (by intro x y h; cases h)]; simp
theorem oA : ∀ {l : List α} {z : α}, z ∈ cmpt l → z ∈ l
 | [], z, h => by simp [cmpt] at h
 | [x], z, h => by simpa [cmpt] using h
 | x :: y :: r, z, h => by
  simp only [cmpt] at h
  split at h
  ·exact List.mem_cons_of_mem _ (oA h)
  ·rcases List.mem_cons.1 h with rfl | h
   ·simp
   ·exact List.mem_cons_of_mem _ (oA h)
theorem Bn : ∀ (l : List α), (cmpt l).head? = l.head?
 | [] => rfl
 | [x] => rfl
 | x :: y :: r => by
  simp only [cmpt]
  split
  ·rename_i h; rw [Bn (y :: r), h]; rfl
  ·rfl
theorem Bo : ∀ {l : List α}, (∀ a, lt a a = false) → Rise lt l → cmpt l = l
 | [], _, _ => rfl
 | [x], _, _ => rfl
 | x :: y :: r, hi, h => by
  simp only [cmpt]
  rw [if_neg (by rintro rfl; have h1 := h.1; rw [hi x] at h1; cases h1), Bo hi h.2]
theorem qX {p : α → Bool} (tot : ∀ a b, a ≠ b → p a = true → p b = true → lt b a = false → lt a b = true) : ∀ {l : List α}, (∀ x ∈ l, p x = true) → AdjF lt l → Rise lt (cmpt l)
 | [], _, _ => trivial
 | [x], _, _ => trivial
 | x :: y :: r, hp, h => by
  have ih := qX tot (l := y :: r) (fun z hz => hp z (List.mem_cons_of_mem _ hz)) h.2
  simp only [cmpt]
  split
  ·exact ih
  ·rename_i hxy
   have hd := Bn (y :: r)
   cases hc : cmpt (y :: r) with
   | nil => rw [hc] at hd; cases hd
   | cons z s =>
    rw [hc] at hd ih
    simp only [List.head?_cons, Option.some.injEq] at hd
    subst hd
    exact ⟨tot x z hxy (hp x (by simp)) (hp z (by simp)) h.1, ih⟩
theorem xk (asym : ∀ a b, lt a b = true → lt b a = false) : ∀ {l : List α}, Rise lt l → AdjF lt l
 | [], _ => trivial
 | [x], _ => trivial
 | x :: y :: r, h => ⟨asym _ _ h.1, xk asym h.2⟩
theorem Bp {p : α → Bool} (asym : ∀ a b, lt a b = true → lt b a = false) (irr : ∀ a, lt a a = false) (tot : ∀ a b, a ≠ b → p a = true → p b = true → lt b a = false → lt a b = true) (l : List α) :
  cmpt (srtV lt (l.filter p)) = l ↔ (∀ x ∈ l, p x = true) ∧ Rise lt l := by
 constructor
 ·intro h
  have hp : ∀ x ∈ l, p x = true := fun x hx => by
   rw [← h] at hx
   have := (vT lt (l.filter p) x).1 (oA hx)
   exact (List.mem_filter.1 this).2
  refine ⟨hp, ?_⟩
  rw [← h]
  refine qX lt tot (p := p) (fun x hx => ?_) (Hu lt asym _)
  exact (List.mem_filter.1 ((vT lt _ x).1 hx)).2
 ·rintro ⟨hp, hr⟩
  rw [List.filter_eq_self.2 hp, J7 lt (xk lt asym hr), Bo lt irr hr]
end
end Go.Proofs.YtibchilpaaiecaaGreatDoor.L
/- Sorting names in a box: the walks of DeleteFunc, SortFunc (by insertion: few names) and Compact. -/
set_option linter.all false
namespace Go.Proofs.YtibchilpaaiecaaGreatDoor.L
open Go.Proofs.YtibchilpaaiecaaGreatDoor.M Go.Proofs.YtibchilpaaiecaaGreatDoor.F Go.Proofs
def sA (s : List UInt8) : AV := .str ⟨s.toArray⟩
def Sx (L : List (List UInt8)) : Bx := .cells (L.map sA)
def shS (L : List (List UInt8)) : Prop := ∀ s ∈ L, s.length ≤ 281474976710656
def fnC : AV := .fn (.func 126) [] []
def fnD : AV := .fn (.func 129) [] []
def ltC (a b : List UInt8) : Bool := decide (comC a b < 0)
theorem ixn {i : Nat} : 0 + ((i : Int)).toNat * 1 = i := by rw [Int.toNat_natCast]; omega
theorem tks {α : Type} {l : List α} {i : Nat} {v : α} (h : i < l.length) : l.take i ++ v :: l.drop (i + 1) = l.set i v := by rw [List.set_eq_take_append_cons_drop, if_pos h]
theorem nR {α β : Type} {f : α → β} {A : List α} {x : α} {B : List α} {i : Nat} (h : i = A.length) : ((A ++ x :: B).map f)[i]? = some (f x) := by subst h; simp
theorem oB {α β : Type} {f : α → β} {A : List α} {x y : α} {B : List α} {i : Nat} (h : i = A.length) : ((A ++ x :: B).map f).set i (f y) = (A ++ y :: B).map f := by subst h; simp
theorem up1 {i : Nat} (h : i ≤ 1000000) : IntKind.i64.wrap ((i : Int) + 1) = ((i + 1 : Nat) : Int) := by rw [w64 (by omega) (by omega)]; rfl
theorem dn1 {i : Nat} (h : i ≤ 1000000) : IntKind.i64.wrap (((i + 1 : Nat) : Int) - 1) = (i : Int) := by rw [w64 (by omega) (by omega)]; omega
theorem qY {a b : Bx} {r : AV} : gc [a] r [b] = some (r, [b]) := wX (Nat.le_refl _)
theorem DA {n : Nat} {v8 : AV} (hn : n ≤ 1000) : ∀ (ys : List (List UInt8)) (x : List UInt8) (tl : List (List UInt8)), ys.length < n → shS ys → x.length ≤ 281474976710656 →
  den T (.loop cy) (eK (.bs 0 0 n none) (.int .i64 0) (.int .i64 n) fnC v8 (.int .i64 ys.length)) [Sx (ys.reverse ++ x :: tl)]
   = some (.exit 2, eL (.bs 0 0 n none) (.int .i64 0) (.int .i64 n) fnC v8, [Sx ((insV ltC x ys).reverse ++ tl)]) := by
 intro ys
 induction ys with
 | nil =>
  intro x tl hl _ hx
  have e1 : decide ((0 : Int) > 0) = false := rfl
  simp only [insV, List.reverse_nil, List.nil_append, List.reverse_cons, List.cons_append, List.length_nil, show ((0 : Nat) : Int) = 0 from rfl]
  rw [ae]
  simp -implicitDefEqProofs (disch := (refine ab ?_; first | assumption | omega | (simp [go_sem] <;> omega) | with_unfolding_all rfl | decide)) only [go_sem, Nat.reduceAdd, Nat.reduceSub, reduceIte, reduceCtorEq, e1]
 | cons y ys ih =>
  intro x tl hl hs hx
  have hy := hs y (by simp)
  have ih' := ih x (y :: tl) (by simp at hl; omega) (fun s hq => hs s (by simp [hq])) hx
  have hL : (y :: ys).reverse ++ x :: tl = ys.reverse ++ y :: x :: tl := by simp
  rw [hL]
  simp only [List.length_cons]
  have hl' : ys.length + 1 < n := by simpa using hl
  have gx : ((ys.reverse ++ y :: x :: tl).map sA)[ys.length + 1]? = some (.str ⟨x.toArray⟩) := by
   rw [show ys.reverse ++ y :: x :: tl = (ys.reverse ++ [y]) ++ x :: tl by simp]; exact nR (by simp)
  have gy : ((ys.reverse ++ y :: x :: tl).map sA)[ys.length]? = some (.str ⟨y.toArray⟩) := nR (by simp)
  have hM : ((ys.reverse ++ y :: x :: tl).map sA).length = ys.length + 2 + tl.length := by simp; omega
  have hset : (((ys.reverse ++ y :: x :: tl).map sA).set (ys.length + 1) (.str ⟨y.toArray⟩)).set ys.length (.str ⟨x.toArray⟩) = (ys.reverse ++ x :: y :: tl).map sA := by
   have := oB (f := sA) (A := ys.reverse ++ [y]) (x := x) (y := y) (B := tl) (i := ys.length + 1) (by simp)
   rw [show ys.reverse ++ y :: x :: tl = (ys.reverse ++ [y]) ++ x :: tl by simp]
   show (((ys.reverse ++ [y] ++ x :: tl).map sA).set (ys.length + 1) (sA y)).set ys.length (sA x) = _
   rw [this, show ys.reverse ++ [y] ++ y :: tl = ys.reverse ++ y :: y :: tl by simp]
   exact oB (by simp)
  have hc := xf (a := x) (b := y) (h := [Sx (ys.reverse ++ y :: x :: tl)]) hx hy
  unfold Sx at hc ih' ⊢
  generalize hMM : (ys.reverse ++ y :: x :: tl).map sA = M at *
  have e1 : decide (((ys.length + 1 : Nat) : Int) > 0) = true := decide_eq_true (by omega)
  have e2 : IntKind.i64.wrap (((ys.length + 1 : Nat) : Int) - 1) = (ys.length : Int) := dn1 (by omega)
  have i1 : ((ys.length + 1 : Nat) : Int) < (n : Int) := by omega
  have i2 : ((ys.length : Nat) : Int) < (n : Int) := by omega
  have i3 : (0 : Int) ≤ ((ys.length + 1 : Nat) : Int) := by omega
  have i4 : (0 : Int) ≤ ((ys.length : Nat) : Int) := by omega
  by_cases hlt : comC x y < 0
  ·have e3 : decide (comC x y < 0) = true := decide_eq_true hlt
   have b1 : Nat.ble (ys.length + 1 + 1) M.length = true := Nat.ble_eq_true_of_le (by omega)
   have b2 : Nat.ble (ys.length + 1) (M.set (ys.length + 1) (.str ⟨y.toArray⟩)).length = true := Nat.ble_eq_true_of_le (by simp; omega)
   have t1 : M.take (ys.length + 1) ++ AV.str ⟨y.toArray⟩ :: M.drop (ys.length + 1 + 1) = M.set (ys.length + 1) (.str ⟨y.toArray⟩) := tks (by omega)
   have t2 : (M.set (ys.length + 1) (.str ⟨y.toArray⟩)).take ys.length ++ AV.str ⟨x.toArray⟩ :: (M.set (ys.length + 1) (.str ⟨y.toArray⟩)).drop (ys.length + 1) = (M.set (ys.length + 1) (.str ⟨y.toArray⟩)).set ys.length (.str ⟨x.toArray⟩) := tks (by simp; omega)
   generalize hj : ys.length + 1 = j at *
   generalize ys.length = i at *
   simp only [insV, ltC, e3, if_true]
   rw [List.reverse_cons, List.append_assoc]
   rw [ae]
   have b2' : Nat.ble (i + 1) (M.set j (.str ⟨y.toArray⟩)).length = true := by rw [hj]; exact b2
   have t2' : (M.set j (.str ⟨y.toArray⟩)).take i ++ AV.str ⟨x.toArray⟩ :: (M.set j (.str ⟨y.toArray⟩)).drop (i + 1) = (M.set j (.str ⟨y.toArray⟩)).set i (.str ⟨x.toArray⟩) := by rw [hj]; exact t2
   simp (maxSteps := 2000000) -implicitDefEqProofs (disch := (refine ab ?_; first | assumption | omega | (simp [go_sem] <;> omega) | with_unfolding_all rfl | decide)) only [go_sem, Nat.reduceAdd, Nat.reduceSub, reduceIte, reduceCtorEq, fnC, e1, e2, ixn, gx, gy, hc, e3, b1, t1, b2', t2', hset]
   exact ih'
  ·have e3 : decide (comC x y < 0) = false := decide_eq_false hlt
   generalize hj : ys.length + 1 = j at *
   generalize ys.length = i at *
   simp only [insV, ltC, e3, Bool.false_eq_true, if_false]
   rw [show (x :: y :: ys).reverse ++ tl = ys.reverse ++ y :: x :: tl by simp, hMM]
   rw [ae]
   simp (maxSteps := 2000000) -implicitDefEqProofs (disch := (refine ab ?_; first | assumption | omega | (simp [go_sem] <;> omega) | with_unfolding_all rfl | decide)) only [go_sem, Nat.reduceAdd, Nat.reduceSub, reduceIte, reduceCtorEq, fnC, e1, e2, ixn, gx, gy, hc, e3]
theorem Bq {n : Nat} {pad : List (List UInt8)} (hn : n ≤ 1000) : ∀ (rest rev : List (List UInt8)), rev.length + rest.length = n → 0 < rev.length ∨ rest = [] → shS rev → shS rest →
  den T (.loop bg) (cv (.bs 0 0 n none) (.int .i64 0) (.int .i64 n) fnC (.int .i64 (rev.length : Nat))) [Sx (rev.reverse ++ (rest ++ pad))]
   = some (.exit 0, cw, [Sx ((rest.foldl (fun a x => insV ltC x a) rev).reverse ++ pad)]) := by
 intro rest
 induction rest with
 | nil =>
  intro rev hl _ _ _
  have e1 : decide ((rev.length : Int) < (n : Int)) = false := decide_eq_false (by simp at hl; omega)
  simp only [List.foldl_nil, List.nil_append]
  rw [ae]
  simp -implicitDefEqProofs (disch := (refine ab ?_; first | assumption | omega | (simp [go_sem] <;> omega) | with_unfolding_all rfl | decide)) only [go_sem, Nat.reduceAdd, Nat.reduceSub, reduceIte, reduceCtorEq, e1]
 | cons x rest ih =>
  intro rev hl hr hsr hs
  have hx := hs x (by simp)
  have hl' : rev.length + 1 + rest.length = n := by simp at hl; omega
  have hil : (insV ltC x rev).length = rev.length + 1 := sJ ltC
  have ih' := ih (insV ltC x rev) (by omega) (.inl (by omega)) (fun s hq => by
   rcases (sI ltC).1 hq with rfl | hq
   ·exact hx
   ·exact hsr s hq) (fun s hq => hs s (by simp [hq]))
  have e1 : decide ((rev.length : Int) < (n : Int)) = true := decide_eq_true (by omega)
  have e2 : IntKind.i64.wrap ((rev.length : Int) + 1) = ((rev.length + 1 : Nat) : Int) := up1 (by omega)
  have hin := DA (n := n) (v8 := .int .i64 rev.length) hn rev x (rest ++ pad) (by omega) hsr hx
  rw [hil] at ih'
  simp only [List.foldl_cons, List.cons_append]
  rw [ae]
  simp (maxSteps := 2000000) -implicitDefEqProofs (disch := (refine ab ?_; first | assumption | omega | (simp [go_sem] <;> omega) | with_unfolding_all rfl | decide)) only [go_sem, Nat.reduceAdd, Nat.reduceSub, reduceIte, reduceCtorEq, e1, hin, e2]
  exact ih'
theorem DB {n : Nat} {l pad : List (List UInt8)} (hn : l.length = n) (h8 : n ≤ 1000) (hs : shS l) :
  run T 168 [.bs 0 0 n none, .int .i64 0, .int .i64 n, fnC] [Sx (l ++ pad)] = some (.tup [], [Sx (srtV ltC l ++ pad)]) := by
 rw [af Lq]
 have e0 : IntKind.i64.wrap ((0 : Int) + 1) = 1 := rfl
 cases l with
 | nil =>
  have e1 : decide ((1 : Int) < (n : Int)) = false := decide_eq_false (by simp at hn; omega)
  have h1 : den T (.loop bg) (cv (.bs 0 0 n none) (.int .i64 0) (.int .i64 n) fnC (.int .i64 1)) [Sx ([] ++ pad)] = some (.exit 0, cw, [Sx ([] ++ pad)]) := by
   rw [ae]
   simp -implicitDefEqProofs (disch := (refine ab ?_; first | assumption | omega | (simp [go_sem] <;> omega) | with_unfolding_all rfl | decide)) only [go_sem, Nat.reduceAdd, Nat.reduceSub, reduceIte, reduceCtorEq, e1]
  simp only [srtV, List.foldl_nil, List.reverse_nil]
  simp (maxSteps := 2000000) -implicitDefEqProofs (disch := (refine ab ?_; first | assumption | omega | (simp [go_sem] <;> omega) | with_unfolding_all rfl | decide)) only [go_sem, Nat.reduceAdd, Nat.reduceSub, reduceIte, reduceCtorEq, aw, fnC, e0] at h1 ⊢
  simp (maxSteps := 2000000) -implicitDefEqProofs (disch := (refine ab ?_; first | assumption | omega | (simp [go_sem] <;> omega) | with_unfolding_all rfl | decide)) only [go_sem, Nat.reduceAdd, Nat.reduceSub, reduceIte, reduceCtorEq, h1, qY]
 | cons x r =>
  have h1 := Bq (n := n) (pad := pad) h8 r [x] (by simp at hn ⊢; omega) (.inl (by simp)) (fun s hq => hs s (by simp at hq; simp [hq])) (fun s hq => hs s (by simp [hq]))
  have e1 : (r.foldl (fun a x => insV ltC x a) [x]).reverse = srtV ltC (x :: r) := by simp [srtV, insV]
  rw [e1] at h1
  simp only [List.length_cons, List.length_nil, List.reverse_cons, List.reverse_nil, List.nil_append, List.cons_append, show ((0 + 1 : Nat) : Int) = 1 from rfl] at h1
  simp (maxSteps := 2000000) -implicitDefEqProofs (disch := (refine ab ?_; first | assumption | omega | (simp [go_sem] <;> omega) | with_unfolding_all rfl | decide)) only [go_sem, Nat.reduceAdd, Nat.reduceSub, reduceIte, reduceCtorEq, aw, fnC, e0] at h1 ⊢
  simp (maxSteps := 2000000) -implicitDefEqProofs (disch := (refine ab ?_; first | assumption | omega | (simp [go_sem] <;> omega) | with_unfolding_all rfl | decide)) only [go_sem, Nat.reduceAdd, Nat.reduceSub, reduceIte, reduceCtorEq, h1, qY]
set_option maxRecDepth 100000 in
theorem Hv {n : Nat} {k : Int} {l pad : List (List UInt8)} (hn : l.length = n) (h8 : n ≤ 12) (hs : shS l) :
  run T 156 [.bs 0 0 n none, .int .i64 0, .int .i64 n, .int .i64 k, fnC] [Sx (l ++ pad)] = some (.tup [], [Sx (srtV ltC l ++ pad)]) := by
 have h1 := DB (pad := pad) hn (by omega) hs
 have e1 : IntKind.i64.wrap ((n : Int) - 0) = (n : Int) := w64 (by omega) (by omega) |>.trans (by omega)
 have e2 : decide ((n : Int) ≤ 12) = true := decide_eq_true (by omega)
 rw [af Ln]
 simp only [fnC] at h1 ⊢
 simp (maxSteps := 4000000) -implicitDefEqProofs (disch := (refine ab ?_; first | assumption | omega | (simp [go_sem] <;> omega) | with_unfolding_all rfl | decide)) only [go_sem, Nat.reduceAdd, Nat.reduceSub, reduceIte, reduceCtorEq, bq, ae, e1, e2, h1, qY]
theorem DC : ∀ {n : Nat}, n ≤ 8 → ∃ k : Int, run T 157 [.int .u64 n] [] = some (.int .i64 k, [])
 | 0, _ => ⟨0, fm (n := 60) (by kernel_rfl)⟩
 | 1, _ => ⟨1, fm (n := 60) (by kernel_rfl)⟩
 | 2, _ => ⟨2, fm (n := 60) (by kernel_rfl)⟩
 | 3, _ => ⟨2, fm (n := 60) (by kernel_rfl)⟩
 | 4, _ => ⟨3, fm (n := 60) (by kernel_rfl)⟩
 | 5, _ => ⟨3, fm (n := 60) (by kernel_rfl)⟩
 | 6, _ => ⟨3, fm (n := 60) (by kernel_rfl)⟩
 | 7, _ => ⟨3, fm (n := 60) (by kernel_rfl)⟩
 | 8, _ => ⟨4, fm (n := 60) (by kernel_rfl)⟩
 | n + 9, h => by omega
theorem wu64 {n : Nat} (h : n ≤ 1000) : IntKind.u64.wrap (n : Int) = (n : Int) := by
 simp [IntKind.wrap, IntKind.bits, IntKind.signed]
 omega
theorem Br {n : Nat} {l pad : List (List UInt8)} (hn : l.length = n) (h8 : n ≤ 8) (hs : shS l) :
  run T 130 [.bs 0 0 n none, fnC] [Sx (l ++ pad)] = some (.tup [], [Sx (srtV ltC l ++ pad)]) := by
 obtain ⟨k, hk⟩ := DC h8
 have h1 := Hv (k := k) (pad := pad) hn (by omega) hs
 have e1 := wu64 (n := n) (by omega)
 rw [af Ld]
 simp only [fnC] at h1 ⊢
 simp (maxSteps := 4000000) -implicitDefEqProofs (disch := (refine ab ?_; first | assumption | omega | (simp [go_sem] <;> omega) | with_unfolding_all rfl | decide)) only [go_sem, Nat.reduceAdd, Nat.reduceSub, reduceIte, reduceCtorEq, bf, e1, hk, h1, qY]
end Go.Proofs.YtibchilpaaiecaaGreatDoor.L
/- DeleteFunc and Compact on names in a box. -/
set_option linter.all false
namespace Go.Proofs.YtibchilpaaiecaaGreatDoor.L
open Go.Proofs.YtibchilpaaiecaaGreatDoor.M Go.Proofs.YtibchilpaaiecaaGreatDoor.F Go.Proofs
theorem uu {s : List UInt8} {h : AH} (hs : s.length ≤ 281474976710656) : run T 129 [.str ⟨s.toArray⟩] h = some (.bool (!rigC s), h) := by
 have h1 := sH (h := []) hs
 rw [af Lc]
 simp -implicitDefEqProofs (disch := (refine ab ?_; first | assumption | omega | (simp [go_sem] <;> omega) | with_unfolding_all rfl | decide)) only [go_sem, Nat.reduceAdd, Nat.reduceSub, reduceIte, reduceCtorEq, hU, h1]
theorem Bs {n : Nat} (hn : n ≤ 1000) : ∀ (R A : List (List UInt8)) (i : Nat), i = A.length → A.length + R.length = n → shS R →
  (R.all rigC = true ∧ den T (.loop aC) (aP (.bs 0 0 n none) fnD (.int .i64 n) (.int .i64 i)) [Sx (A ++ R)] = some (.exit 0, fv, [Sx (A ++ R)])) ∨
  ∃ K y R', R = K ++ y :: R' ∧ K.all rigC = true ∧ rigC y = false ∧ ∃ σ, den T (.loop aC) (aP (.bs 0 0 n none) fnD (.int .i64 n) (.int .i64 i)) [Sx (A ++ R)] = some (.ret, σ, [Sx (A ++ R)]) ∧ σ.getD 4 aa = .int .i64 ((A.length + K.length : Nat)) := by
 intro R
 induction R with
 | nil =>
  intro A i hi hl _
  have e1 : decide ((i : Int) < (n : Int)) = false := decide_eq_false (by simp at hl; omega)
  refine .inl ⟨rfl, ?_⟩
  rw [ae]
  simp -implicitDefEqProofs (disch := (refine ab ?_; first | assumption | omega | (simp [go_sem] <;> omega) | with_unfolding_all rfl | decide)) only [go_sem, Nat.reduceAdd, Nat.reduceSub, reduceIte, reduceCtorEq, e1]
 | cons v R ih =>
  intro A i hi hl hs
  have hl' : A.length + 1 + R.length = n := by simp at hl; omega
  have hv := hs v (by simp)
  have e1 : decide ((i : Int) < (n : Int)) = true := decide_eq_true (by omega)
  have e2 : IntKind.i64.wrap ((i : Int) + 1) = ((i + 1 : Nat) : Int) := up1 (by omega)
  have g : ((A ++ v :: R).map sA)[i]? = some (.str ⟨v.toArray⟩) := nR hi
  have ih' := ih (A ++ [v]) (i + 1) (by simp [hi]) (by simp; omega) (fun s hq => hs s (by simp [hq]))
  rw [List.append_assoc, List.singleton_append] at ih'
  unfold Sx at ih' ⊢
  generalize hM : (A ++ v :: R).map sA = M at *
  have h1 := uu (s := v) (h := [Bx.cells M]) hv
  have i1 : (0 : Int) ≤ (i : Int) := by omega
  have i2 : (i : Int) < (n : Int) := by omega
  cases hr : rigC v with
  | true =>
   rw [hr] at h1
   have hstep : den T (.loop aC) (aP (.bs 0 0 n none) fnD (.int .i64 n) (.int .i64 i)) [Bx.cells M] = den T (.loop aC) (aP (.bs 0 0 n none) fnD (.int .i64 n) (.int .i64 (i + 1 : Nat))) [Bx.cells M] := by
    conv => lhs; rw [ae]
    simp only [fnD]
    simp (maxSteps := 2000000) -implicitDefEqProofs (disch := (refine ab ?_; first | assumption | omega | (simp [go_sem] <;> omega) | with_unfolding_all rfl | decide)) only [go_sem, Nat.reduceAdd, Nat.reduceSub, reduceIte, reduceCtorEq, e1, ixn, g, h1, e2]
   rw [hstep]
   rcases ih' with ⟨q1, q2⟩ | ⟨K, y, R', rfl, q1, q2, σ, q3, q4⟩
   ·exact .inl ⟨by simp [hr, q1], q2⟩
   ·refine .inr ⟨v :: K, y, R', by simp, by simp [hr, q1], q2, σ, q3, ?_⟩
    rw [q4]; simp; omega
  | false =>
   rw [hr] at h1
   refine .inr ⟨[], v, R, by simp, rfl, hr, ?_⟩
   rw [ae]
   simp only [fnD]
   simp (maxSteps := 2000000) -implicitDefEqProofs (disch := (refine ab ?_; first | assumption | omega | (simp [go_sem] <;> omega) | with_unfolding_all rfl | decide)) only [go_sem, Nat.reduceAdd, Nat.reduceSub, reduceIte, reduceCtorEq, e1, ixn, g, h1, e2]
   exact ⟨_, rfl, by rw [hi]; rfl⟩
theorem DD {L : List (List UInt8)} (hn : L.length ≤ 1000) (hs : shS L) :
  (L.all rigC = true ∧ run T 155 [.bs 0 0 L.length none, fnD] [Sx L] = some (.int .i64 (-1), [Sx L])) ∨
  ∃ K y R', L = K ++ y :: R' ∧ K.all rigC = true ∧ rigC y = false ∧ run T 155 [.bs 0 0 L.length none, fnD] [Sx L] = some (.int .i64 K.length, [Sx L]) := by
 have h0 := Bs (n := L.length) hn L [] 0 rfl (by simp) hs
 simp only [List.nil_append, show ((0 : Nat) : Int) = 0 from rfl, List.length_nil, Nat.zero_add] at h0
 rw [af Lm]
 rcases h0 with ⟨q1, q2⟩ | ⟨K, y, R', e, q1, q2, σ, q3, q4⟩
 ·refine .inl ⟨q1, ?_⟩
  simp only [fnD] at q2 ⊢
  simp (maxSteps := 2000000) -implicitDefEqProofs (disch := (refine ab ?_; first | assumption | omega | (simp [go_sem] <;> omega) | with_unfolding_all rfl | decide)) only [go_sem, Nat.reduceAdd, Nat.reduceSub, reduceIte, reduceCtorEq, aJ, q2]
 ·refine .inr ⟨K, y, R', e, q1, q2, ?_⟩
  simp only [fnD] at q3 ⊢
  simp (maxSteps := 2000000) -implicitDefEqProofs (disch := (refine ab ?_; first | assumption | omega | (simp [go_sem] <;> omega) | with_unfolding_all rfl | decide)) only [go_sem, Nat.reduceAdd, Nat.reduceSub, reduceIte, reduceCtorEq, aJ, q3, q4]
theorem DE {n : Nat} (hn : n ≤ 1000) : ∀ (R K J : List (List UInt8)) (i j : Nat), i = K.length → j = K.length + J.length → j + R.length = n → 0 < J.length → shS R →
  ∃ J' : List (List UInt8), (K ++ R.filter rigC).length + J'.length = n ∧ den T (.loop cQ) (fg (.bs 0 0 n none) fnD (.int .i64 i) (.int .i64 j)) [Sx (K ++ (J ++ R))]
   = some (.exit 0, fh (.bs 0 0 n none) (.int .i64 ((K ++ R.filter rigC).length : Nat)), [Sx (K ++ R.filter rigC ++ J')]) := by
 intro R
 induction R with
 | nil =>
  intro K J i j hi hj hl _ _
  have e1 : decide ((j : Int) < (n : Int)) = false := decide_eq_false (by simp at hl; omega)
  refine ⟨J, by simp at hl ⊢; omega, ?_⟩
  simp only [List.filter_nil, List.append_nil]
  rw [← hi, ae]
  simp -implicitDefEqProofs (disch := (refine ab ?_; first | assumption | omega | (simp [go_sem] <;> omega) | with_unfolding_all rfl | decide)) only [go_sem, Nat.reduceAdd, Nat.reduceSub, reduceIte, reduceCtorEq, e1]
 | cons v R ih =>
  intro K J i j hi hj hl hJ hs
  have hl' : j + 1 + R.length = n := by simp at hl; omega
  have hv := hs v (by simp)
  have e1 : decide ((j : Int) < (n : Int)) = true := decide_eq_true (by omega)
  have e2 : IntKind.i64.wrap ((j : Int) + 1) = ((j + 1 : Nat) : Int) := up1 (by omega)
  have e3 : IntKind.i64.wrap ((i : Int) + 1) = ((i + 1 : Nat) : Int) := up1 (by omega)
  obtain ⟨y, J2, rfl⟩ : ∃ y J2, J = y :: J2 := by cases J with
   | nil => simp at hJ
   | cons y J2 => exact ⟨y, J2, rfl⟩
  have g : ((K ++ (y :: J2 ++ v :: R)).map sA)[j]? = some (.str ⟨v.toArray⟩) := by
   rw [← List.append_assoc]; exact nR (by rw [hj]; simp)
  have i1 : (0 : Int) ≤ (j : Int) := by omega
  have i2 : (j : Int) < (n : Int) := by omega
  have i3 : (0 : Int) ≤ (i : Int) := by omega
  have i4 : (i : Int) < (n : Int) := by simp at hj; omega
  have hset : ((K ++ (y :: J2 ++ v :: R)).map sA).set i (.str ⟨v.toArray⟩) = ((K ++ [v]) ++ ((J2 ++ [v]) ++ R)).map sA := by
   have := oB (f := sA) (A := K) (x := y) (y := v) (B := J2 ++ v :: R) hi
   rw [show (K ++ [v]) ++ ((J2 ++ [v]) ++ R) = K ++ v :: (J2 ++ v :: R) by simp]
   exact this
  have hlen : ((K ++ (y :: J2 ++ v :: R)).map sA).length = n := by simp at hl hj ⊢; omega
  have iht := ih (K ++ [v]) (J2 ++ [v]) (i + 1) (j + 1) (by simp [hi]) (by simp at hj ⊢; omega) hl' (by simp) (fun s hq => hs s (by simp [hq]))
  have ihf := ih K (y :: J2 ++ [v]) i (j + 1) hi (by simp at hj ⊢; omega) hl' (by simp) (fun s hq => hs s (by simp [hq]))
  have hf : K ++ (y :: J2 ++ [v] ++ R) = K ++ (y :: J2 ++ v :: R) := by simp
  rw [hf] at ihf
  unfold Sx at iht ihf ⊢
  rw [← hset] at iht
  generalize hM : (K ++ (y :: J2 ++ v :: R)).map sA = M at *
  have h1 := uu (s := v) (h := [Bx.cells M]) hv
  cases hr : rigC v with
  | true =>
   rw [hr] at h1
   have b1 : Nat.ble (i + 1) M.length = true := Nat.ble_eq_true_of_le (by omega)
   have t1 : M.take i ++ AV.str ⟨v.toArray⟩ :: M.drop (i + 1) = M.set i (.str ⟨v.toArray⟩) := tks (by omega)
   obtain ⟨J', q1, q2⟩ := iht
   have hfl : (v :: R).filter rigC = v :: R.filter rigC := by simp [hr]
   have hKv : K ++ [v] ++ R.filter rigC = K ++ v :: R.filter rigC := by simp
   rw [hKv] at q1 q2
   rw [hfl]
   refine ⟨J', q1, ?_⟩
   rw [ae]
   simp only [fnD] at q2 ⊢
   simp (maxSteps := 2000000) -implicitDefEqProofs (disch := (refine ab ?_; first | assumption | omega | (simp [go_sem] <;> omega) | with_unfolding_all rfl | decide)) only [go_sem, Nat.reduceAdd, Nat.reduceSub, reduceIte, reduceCtorEq, e1, ixn, g, h1, e2, e3, b1, t1]
   simp only [List.append_assoc, List.cons_append] at q2
   exact q2
  | false =>
   rw [hr] at h1
   obtain ⟨J', q1, q2⟩ := ihf
   have hfl : (v :: R).filter rigC = R.filter rigC := by simp [hr]
   rw [hfl]
   refine ⟨J', q1, ?_⟩
   rw [ae]
   simp only [fnD] at q2 ⊢
   simp (maxSteps := 2000000) -implicitDefEqProofs (disch := (refine ab ?_; first | assumption | omega | (simp [go_sem] <;> omega) | with_unfolding_all rfl | decide)) only [go_sem, Nat.reduceAdd, Nat.reduceSub, reduceIte, reduceCtorEq, e1, ixn, g, h1, e2]
   simp only [List.append_assoc, List.cons_append] at q2
   exact q2
theorem xl {A J : List (List UInt8)} {m d : Nat} {pad : List (List UInt8)} (hm : m = A.length) (hd : d = J.length) :
  ovl ((A ++ (J ++ pad)).map sA) m (List.replicate d [AV.str ⟨#[]⟩]).flatten = (A ++ (List.replicate d [] ++ pad)).map sA := by
 have h1 : (List.replicate d [AV.str ⟨#[]⟩]).flatten = (List.replicate d ([] : List UInt8)).map sA := by
  induction d generalizing J with
  | zero => rfl
  | succ d ih =>
   rw [List.replicate_succ, List.flatten_cons, List.replicate_succ, List.map_cons, ih (J := List.replicate d []) (by simp)]
   rfl
 rw [h1]
 unfold ovl
 subst hm hd
 simp only [List.map_append, List.length_map, List.length_replicate]
 rw [List.take_left' (by simp), ← List.append_assoc (List.map sA A) (List.map sA J), List.drop_left' (by simp)]
 simp
theorem DF {L : List (List UInt8)} (h8 : L.length ≤ 8) (hs : shS L) :
  ∃ pad, run T 128 [.bs 0 0 L.length none, fnD] [Sx L] = some (.bs 0 0 (L.filter rigC).length none, [Sx (L.filter rigC ++ pad)]) := by
 have h0 := DD (L := L) (by omega) hs
 rw [af Lb]
 rcases h0 with ⟨q1, q2⟩ | ⟨K, y, R, rfl, q1, q2, q3⟩
 ·have hf : L.filter rigC = L := List.filter_eq_self.2 (by simpa [List.all_eq_true] using q1)
  rw [hf]
  refine ⟨[], ?_⟩
  have e1 : ((-1 : Int) == -1) = true := rfl
  rw [List.append_nil]
  simp only [fnD] at q2 ⊢
  simp (maxSteps := 2000000) -implicitDefEqProofs (disch := (refine ab ?_; first | assumption | omega | (simp [go_sem] <;> omega) | with_unfolding_all rfl | decide)) only [go_sem, Nat.reduceAdd, Nat.reduceSub, reduceIte, reduceCtorEq, aG, q2, e1]
 ·obtain ⟨n, hn⟩ : ∃ n, n = (K ++ y :: R).length := ⟨_, rfl⟩
  have hfK : (K ++ y :: R).filter rigC = K ++ R.filter rigC := by
   rw [List.filter_append, List.filter_cons, q2]
   simp only [Bool.false_eq_true, if_false]
   rw [List.filter_eq_self.2 (by simpa [List.all_eq_true] using q1)]
  rw [← hn] at h8 q3
  rw [← hn]
  obtain ⟨J', p1, p2⟩ := DE (n := n) (by omega) R K [y] K.length (K.length + 1) rfl rfl (by simp at hn; omega) (by simp) (fun s hq => hs s (by simp [hq]))
  simp only [List.singleton_append] at p2
  rw [hfK]
  generalize hA : K ++ R.filter rigC = A at *
  refine ⟨List.replicate J'.length [], ?_⟩
  have hm : A.length + J'.length = n := p1
  have e1 : ((K.length : Int) == -1) = false := by simp only [beq_eq_false_iff_ne, ne_eq]; omega
  have hKn : K.length + 1 ≤ n := by simp at hn; omega
  have e2 : IntKind.i64.wrap ((K.length : Int) + 1) = ((K.length + 1 : Nat) : Int) := up1 (by omega)
  have c1 := xl (A := A) (J := J') (m := A.length) (d := J'.length) (pad := []) rfl rfl
  simp only [List.append_nil] at c1
  have hML : ((A ++ J').map sA).length = n := by simp; omega
  unfold Sx at p2 q3 ⊢
  generalize hM : (A ++ J').map sA = M at *
  generalize hM0 : (K ++ y :: R).map sA = M0 at *
  have i1 : (0 : Int) ≤ (A.length : Int) := by omega
  have i2 : (A.length : Int) ≤ (n : Int) := by omega
  have en : n - A.length = J'.length := by omega
  have b1 : A.length + J'.length * [AV.str ⟨#[]⟩].length ≤ M.length := by simp only [List.length_cons, List.length_nil]; omega
  generalize hk : A.length = m at *
  simp only [fnD] at p2 q3 ⊢
  have hclr : clrV [AV.str ⟨#[]⟩] [Bx.cells M] (.bs 0 m J'.length none) = some [Bx.cells ((A ++ List.replicate J'.length []).map sA)] := by
   rw [Aa, show ([Bx.cells M] : AH)[0]? = some (.cells M) from rfl, pj b1, c1]; rfl
  have hsl1 : cV (some 1) (.bs 0 0 n none) (some (some (m : Int))) (some none) (some none) = some (.bs 0 m J'.length none) := by
   rw [qQ (by simp) (by simpa using i2) (by simp)]
   simp only [Option.getD_some, Option.getD_none, Int.toNat_natCast, Option.map_none, en, Nat.mul_one, Nat.zero_add]
  have hsl2 : cV (some 1) (.bs 0 0 n none) (some none) (some (some (m : Int))) (some none) = some (.bs 0 0 m none) := by
   rw [qQ (by simp) (by simp) (by simpa using i2)]
   simp
  simp (maxSteps := 2000000) -implicitDefEqProofs (disch := (refine ab ?_; first | assumption | omega | (simp [go_sem] <;> omega) | with_unfolding_all rfl | decide)) only [go_sem, Nat.reduceAdd, Nat.reduceSub, reduceIte, reduceCtorEq, aG, q3, e1, e2, p2, hsl1, hsl2, hclr, qY]
def cmT : List UInt8 → List (List UInt8) → List (List UInt8)
 | _, [] => []
 | y, w :: r => if y = w then cmT w r else w :: cmT w r
theorem pP : ∀ (R : List (List UInt8)) (y : List UInt8), cmpt (y :: R) = y :: cmT y R
 | [], y => rfl
 | w :: r, y => by
  simp only [cmpt, cmT]
  split
  ·rename_i h; rw [pP r w, h]
  ·rw [pP r w]
theorem DG {n k0 : Nat} {pad : List (List UInt8)} (hn : n ≤ 1000) (hk0 : k0 ≤ n) : ∀ (R K J : List (List UInt8)) (y : List UInt8) (k k2 p : Nat), k = K.length → p = K.length + J.length → k0 + k2 = p + 1 → p + 1 + R.length = n → 1 ≤ k2 →
  ∃ J' : List (List UInt8), (K ++ cmT y R).length + J'.length = n ∧ den T (.loop dw) (fI (.bs 0 0 n none) (.int .i64 k) (.bs 0 k0 (n - k0) none) (.int .i64 k2)) [Sx (K ++ (J ++ y :: (R ++ pad)))]
   = some (.exit 2, fK (.bs 0 0 n none) (.int .i64 ((K ++ cmT y R).length : Nat)), [Sx (K ++ cmT y R ++ (J' ++ pad))]) := by
 intro R
 induction R with
 | nil =>
  intro K J y k k2 p hk hp h2 hl hk2
  have e1 : decide ((k2 : Int) < ((n - k0 : Nat) : Int)) = false := decide_eq_false (by simp at hl; omega)
  refine ⟨J ++ [y], by simp [cmT] at hl ⊢; omega, ?_⟩
  simp only [cmT, List.append_nil, List.nil_append]
  rw [← hk, ae, show K ++ (J ++ [y] ++ pad) = K ++ (J ++ y :: pad) by simp]
  simp -implicitDefEqProofs (disch := (refine ab ?_; first | assumption | omega | (simp [go_sem] <;> omega) | with_unfolding_all rfl | decide)) only [go_sem, Nat.reduceAdd, Nat.reduceSub, reduceIte, reduceCtorEq, e1]
 | cons w R ih =>
  intro K J y k k2 p hk hp h2 hl hk2
  have hl' : p + 1 + 1 + R.length = n := by simp at hl; omega
  have e1 : decide ((k2 : Int) < ((n - k0 : Nat) : Int)) = true := decide_eq_true (by omega)
  have e2 : IntKind.i64.wrap ((k2 : Int) + 1) = ((k2 + 1 : Nat) : Int) := up1 (by omega)
  have e3 : IntKind.i64.wrap ((k : Int) + 1) = ((k + 1 : Nat) : Int) := up1 (by omega)
  obtain ⟨k1, rfl⟩ : ∃ k1, k2 = k1 + 1 := ⟨k2 - 1, by omega⟩
  have e4 : IntKind.i64.wrap (((k1 + 1 : Nat) : Int) - 1) = (k1 : Int) := dn1 (by omega)
  have x1 : k0 + ((k1 + 1 : Nat) : Int).toNat * 1 = p + 1 := by rw [Int.toNat_natCast]; omega
  have x2 : k0 + ((k1 : Nat) : Int).toNat * 1 = p := by rw [Int.toNat_natCast]; omega
  have gy : ((K ++ (J ++ y :: (w :: R ++ pad))).map sA)[p]? = some (.str ⟨y.toArray⟩) := by
   rw [← List.append_assoc]; exact nR (by rw [hp]; simp)
  have gw : ((K ++ (J ++ y :: (w :: R ++ pad))).map sA)[p + 1]? = some (.str ⟨w.toArray⟩) := by
   rw [show K ++ (J ++ y :: (w :: R ++ pad)) = (K ++ J ++ [y]) ++ w :: (R ++ pad) by simp]; exact nR (by rw [hp]; simp; omega)
  have i1 : (0 : Int) ≤ ((k1 + 1 : Nat) : Int) := by omega
  have i2 : ((k1 + 1 : Nat) : Int) < ((n - k0 : Nat) : Int) := by omega
  have i3 : (0 : Int) ≤ ((k1 : Nat) : Int) := by omega
  have i4 : ((k1 : Nat) : Int) < ((n - k0 : Nat) : Int) := by omega
  have i5 : (0 : Int) ≤ ((k : Nat) : Int) := by omega
  have i6 : ((k : Nat) : Int) < (n : Int) := by omega
  have hlen : ((K ++ (J ++ y :: (w :: R ++ pad))).map sA).length = n + pad.length := by simp; omega
  by_cases hyw : y = w
  ·subst hyw
   have e5 : (y == y) = true := by simp
   obtain ⟨J', q1, q2⟩ := ih K (J ++ [y]) y k (k1 + 1 + 1) (p + 1) hk (by rw [hp]; simp; omega) (by omega) hl' (by omega)
   have hf : K ++ (J ++ [y] ++ y :: (R ++ pad)) = K ++ (J ++ y :: (y :: R ++ pad)) := by simp
   rw [hf] at q2
   have hc : cmT y (y :: R) = cmT y R := by simp [cmT]
   rw [hc]
   refine ⟨J', q1, ?_⟩
   unfold Sx at q2 ⊢
   generalize hM : (K ++ (J ++ y :: (y :: R ++ pad))).map sA = M at *
   generalize hR : (K ++ cmT y R ++ (J' ++ pad)).map sA = MR at *
   generalize hk9 : k1 + 1 = k9 at *
   rw [ae]
   simp (maxSteps := 2000000) -implicitDefEqProofs (disch := (refine ab ?_; first | assumption | omega | (simp [go_sem] <;> omega) | with_unfolding_all rfl | decide)) only [go_sem, Nat.reduceAdd, Nat.reduceSub, reduceIte, reduceCtorEq, e1, x1, x2, e4, gy, gw, e5, e2]
   exact q2
  ·have e5 : (w == y) = false := by simpa using fun z : w = y => hyw z.symm
   obtain ⟨J2, z, hz⟩ : ∃ J2 z, J ++ [y] = z :: J2 := by cases J with
    | nil => exact ⟨[], y, rfl⟩
    | cons a J => exact ⟨J ++ [y], a, rfl⟩
   have hJ2 : J2.length = J.length := by have := congrArg List.length hz; simp at this; omega
   obtain ⟨J', q1, q2⟩ := ih (K ++ [w]) J2 w (k + 1) (k1 + 1 + 1) (p + 1) (by simp [hk]) (by simp [hp]; omega) (by omega) hl' (by omega)
   have hset : ((K ++ (J ++ y :: (w :: R ++ pad))).map sA).set k (.str ⟨w.toArray⟩) = (K ++ [w] ++ (J2 ++ w :: (R ++ pad))).map sA := by
    rw [show K ++ (J ++ y :: (w :: R ++ pad)) = K ++ z :: (J2 ++ (w :: R ++ pad)) by rw [show z :: (J2 ++ (w :: R ++ pad)) = (z :: J2) ++ (w :: R ++ pad) from rfl, ← hz]; simp]
    rw [show K ++ [w] ++ (J2 ++ w :: (R ++ pad)) = K ++ w :: (J2 ++ (w :: R ++ pad)) by simp]
    exact oB hk
   have hc : K ++ cmT y (w :: R) = K ++ [w] ++ cmT w R := by simp [cmT, hyw]
   rw [hc]
   refine ⟨J', q1, ?_⟩
   unfold Sx at q2 ⊢
   rw [← hset] at q2
   generalize hM : (K ++ (J ++ y :: (w :: R ++ pad))).map sA = M at *
   generalize hR : (K ++ [w] ++ cmT w R ++ (J' ++ pad)).map sA = MR at *
   generalize hR2 : (K ++ [w] ++ cmT w R).length = m at *
   have b1 : Nat.ble (k + 1) M.length = true := Nat.ble_eq_true_of_le (by omega)
   have t1 : M.take k ++ AV.str ⟨w.toArray⟩ :: M.drop (k + 1) = M.set k (.str ⟨w.toArray⟩) := tks (by omega)
   generalize hk9 : k1 + 1 = k9 at *
   rw [ae]
   simp (maxSteps := 2000000) -implicitDefEqProofs (disch := (refine ab ?_; first | assumption | omega | (simp [go_sem] <;> omega) | with_unfolding_all rfl | decide)) only [go_sem, Nat.reduceAdd, Nat.reduceSub, reduceIte, reduceCtorEq, e1, ixn, x1, x2, e4, gy, gw, e5, e2, e3, b1, t1]
   exact q2
theorem DH {n : Nat} {pad : List (List UInt8)} (hn : n ≤ 1000) : ∀ (R A : List (List UInt8)) (y : List UInt8) (k : Nat), k = A.length + 1 → k + R.length = n → (∀ R' : List (List UInt8), cmpt (A ++ y :: R') = A ++ cmpt (y :: R')) →
  (cmpt (A ++ y :: R) = A ++ y :: R ∧ den T (.loop aI) (bb (.bs 0 0 n none) (.int .i64 k)) [Sx (A ++ y :: (R ++ pad))] = some (.exit 0, fJ (.bs 0 0 n none), [Sx (A ++ y :: (R ++ pad))])) ∨
  ∃ pad' σ, den T (.loop aI) (bb (.bs 0 0 n none) (.int .i64 k)) [Sx (A ++ y :: (R ++ pad))] = some (.ret, σ, [Sx (cmpt (A ++ y :: R) ++ pad')]) ∧ σ.getD 2 aa = .bs 0 0 (cmpt (A ++ y :: R)).length none := by
 intro R
 induction R with
 | nil =>
  intro A y k hk hl hc
  have e1 : decide ((k : Int) < (n : Int)) = false := decide_eq_false (by simp at hl; omega)
  refine .inl ⟨by rw [hc]; rfl, ?_⟩
  rw [ae]
  simp -implicitDefEqProofs (disch := (refine ab ?_; first | assumption | omega | (simp [go_sem] <;> omega) | with_unfolding_all rfl | decide)) only [go_sem, Nat.reduceAdd, Nat.reduceSub, reduceIte, reduceCtorEq, e1]
 | cons z R ih =>
  intro A y k hk hl hc
  have hl' : k + 1 + R.length = n := by simp at hl; omega
  have e1 : decide ((k : Int) < (n : Int)) = true := decide_eq_true (by omega)
  have e2 : IntKind.i64.wrap ((k : Int) + 1) = ((k + 1 : Nat) : Int) := up1 (by omega)
  obtain ⟨k1, rfl⟩ : ∃ k1, k = k1 + 1 := ⟨k - 1, by omega⟩
  have e4 : IntKind.i64.wrap (((k1 + 1 : Nat) : Int) - 1) = (k1 : Int) := dn1 (by omega)
  have gy : ((A ++ y :: (z :: R ++ pad)).map sA)[k1]? = some (.str ⟨y.toArray⟩) := nR (by omega)
  have gz : ((A ++ y :: (z :: R ++ pad)).map sA)[k1 + 1]? = some (.str ⟨z.toArray⟩) := by
   rw [show A ++ y :: (z :: R ++ pad) = (A ++ [y]) ++ z :: (R ++ pad) by simp]; exact nR (by simp; omega)
  have i1 : (0 : Int) ≤ ((k1 + 1 : Nat) : Int) := by omega
  have i2 : ((k1 + 1 : Nat) : Int) < (n : Int) := by omega
  have i3 : (0 : Int) ≤ ((k1 : Nat) : Int) := by omega
  have i4 : ((k1 : Nat) : Int) < (n : Int) := by omega
  by_cases hyz : z = y
  ·subst hyz
   right
   have e5 : (z == z) = true := by simp
   obtain ⟨J', q1, q2⟩ := DG (n := n) (k0 := k1 + 1) (pad := pad) hn (by omega) R (A ++ [z]) [] z (k1 + 1) 1 (k1 + 1) (by simp; omega) (by simp; omega) rfl hl' (Nat.le_refl 1)
   have hcc : cmpt (A ++ z :: z :: R) = A ++ [z] ++ cmT z R := by rw [hc]; simp only [cmpt, if_true]; rw [pP]; simp
   have hf : A ++ [z] ++ ([] ++ z :: (R ++ pad)) = A ++ z :: (z :: R ++ pad) := by simp
   rw [hf] at q2
   rw [hcc]
   generalize hB : A ++ [z] ++ cmT z R = B at *
   refine ⟨List.replicate J'.length [] ++ pad, ?_⟩
   have c1 := xl (A := B) (J := J') (m := B.length) (d := J'.length) (pad := pad) rfl rfl
   have hML : ((B ++ (J' ++ pad)).map sA).length = n + pad.length := by simp; omega
   unfold Sx at q2 ⊢
   generalize hM : (B ++ (J' ++ pad)).map sA = M at *
   generalize hM0 : (A ++ z :: (z :: R ++ pad)).map sA = M0 at *
   have en : n - B.length = J'.length := by omega
   have b1 : B.length + J'.length * [AV.str ⟨#[]⟩].length ≤ M.length := by
    show B.length + J'.length * 1 ≤ M.length
    omega
   have i6 : (B.length : Int) ≤ (n : Int) := by omega
   generalize hk : B.length = m at *
   have hclr : clrV [AV.str ⟨#[]⟩] [Bx.cells M] (.bs 0 m J'.length none) = some [Bx.cells ((B ++ (List.replicate J'.length [] ++ pad)).map sA)] := by
    rw [Aa, show ([Bx.cells M] : AH)[0]? = some (.cells M) from rfl, pj b1, c1]; rfl
   have hsl0 : cV (some 1) (.bs 0 0 n none) (some (some ((k1 + 1 : Nat) : Int))) (some none) (some none) = some (.bs 0 (k1 + 1) (n - (k1 + 1)) none) := by
    rw [qQ (by simp; omega) (by simp; omega) (by simp)]
    simp only [Option.getD_some, Option.getD_none, Int.toNat_natCast, Option.map_none, Nat.mul_one, Nat.zero_add]
   have hsl1 : cV (some 1) (.bs 0 0 n none) (some (some (m : Int))) (some none) (some none) = some (.bs 0 m J'.length none) := by
    rw [qQ (by simp) (by simpa using i6) (by simp)]
    simp only [Option.getD_some, Option.getD_none, Int.toNat_natCast, Option.map_none, en, Nat.mul_one, Nat.zero_add]
   have hsl2 : cV (some 1) (.bs 0 0 n none) (some none) (some (some (m : Int))) (some none) = some (.bs 0 0 m none) := by
    rw [qQ (by simp) (by simp) (by simpa using i6)]
    simp
   generalize hR9 : (B ++ (List.replicate J'.length [] ++ pad)).map sA = MR at *
   simp only [show ((1 : Nat) : Int) = 1 from rfl] at q2
   generalize hk9 : k1 + 1 = k9 at *
   have gz' := gz
   rw [ae]
   simp (maxSteps := 4000000) -implicitDefEqProofs (disch := (refine ab ?_; first | assumption | omega | (simp [go_sem] <;> omega) | with_unfolding_all rfl | decide)) only [go_sem, Nat.reduceAdd, Nat.reduceSub, reduceIte, reduceCtorEq, e1, ixn, e4, gy, gz, e5, hsl0, q2, hsl1, hclr, hsl2, List.getD_cons_succ, List.getD_cons_zero]
   exact ⟨_, rfl, rfl⟩
  ·have e5 : (z == y) = false := by simpa using hyz
   have ih' := ih (A ++ [y]) z (k1 + 1 + 1) (by simp; omega) hl' (fun R' => by
    have := hc (z :: R')
    simp only [cmpt, if_neg (fun h : y = z => hyz h.symm)] at this
    rw [List.append_assoc, List.singleton_append, this]; simp)
   have hf : A ++ [y] ++ z :: (R ++ pad) = A ++ y :: (z :: R ++ pad) := by simp
   have hf2 : A ++ [y] ++ z :: R = A ++ y :: z :: R := by simp
   rw [hf, hf2] at ih'
   unfold Sx at ih' ⊢
   generalize hM0 : (A ++ y :: (z :: R ++ pad)).map sA = M0 at *
   have hstep : den T (.loop aI) (bb (.bs 0 0 n none) (.int .i64 (k1 + 1 : Nat))) [Bx.cells M0] = den T (.loop aI) (bb (.bs 0 0 n none) (.int .i64 (k1 + 1 + 1 : Nat))) [Bx.cells M0] := by
    generalize hk9 : k1 + 1 = k9 at *
    conv => lhs; rw [ae]
    simp (maxSteps := 2000000) -implicitDefEqProofs (disch := (refine ab ?_; first | assumption | omega | (simp [go_sem] <;> omega) | with_unfolding_all rfl | decide)) only [go_sem, Nat.reduceAdd, Nat.reduceSub, reduceIte, reduceCtorEq, e1, ixn, e4, gy, gz, e5, e2]
   rw [hstep]
   exact ih'
theorem Hw {l pad : List (List UInt8)} {n : Nat} (hn : n = l.length) (h8 : n ≤ 8) :
  ∃ pad', run T 131 [.bs 0 0 n none] [Sx (l ++ pad)] = some (.bs 0 0 (cmpt l).length none, [Sx (cmpt l ++ pad')]) := by
 rw [af Lf]
 by_cases h2 : n < 2
 ·have e1 : decide ((n : Int) < 2) = true := decide_eq_true (by omega)
  have hc : cmpt l = l := by
   match l, hn with
   | [], _ => rfl
   | [x], _ => rfl
   | x :: y :: r, hn => simp at hn; omega
  refine ⟨pad, ?_⟩
  rw [hc, ← hn]
  simp (maxSteps := 2000000) -implicitDefEqProofs (disch := (refine ab ?_; first | assumption | omega | (simp [go_sem] <;> omega) | with_unfolding_all rfl | decide)) only [go_sem, Nat.reduceAdd, Nat.reduceSub, reduceIte, reduceCtorEq, aA, e1]
 ·have e1 : decide ((n : Int) < 2) = false := decide_eq_false (by omega)
  obtain ⟨y, R, rfl⟩ : ∃ y R, l = y :: R := by cases l with
   | nil => simp at hn; omega
   | cons y R => exact ⟨y, R, rfl⟩
  have h0 := DH (n := n) (pad := pad) (by omega) R [] y 1 rfl (by simp at hn; omega) (fun R' => rfl)
  simp only [List.nil_append, show ((1 : Nat) : Int) = 1 from rfl] at h0
  rcases h0 with ⟨q1, q2⟩ | ⟨pad', σ, q3, q4⟩
  ·refine ⟨pad, ?_⟩
   rw [q1, ← hn]
   simp (maxSteps := 2000000) -implicitDefEqProofs (disch := (refine ab ?_; first | assumption | omega | (simp [go_sem] <;> omega) | with_unfolding_all rfl | decide)) only [go_sem, Nat.reduceAdd, Nat.reduceSub, reduceIte, reduceCtorEq, aA, e1, q2]
  ·refine ⟨pad', ?_⟩
   simp (maxSteps := 2000000) -implicitDefEqProofs (disch := (refine ab ?_; first | assumption | omega | (simp [go_sem] <;> omega) | with_unfolding_all rfl | decide)) only [go_sem, Nat.reduceAdd, Nat.reduceSub, reduceIte, reduceCtorEq, aA, e1, q3, q4, qY]
end Go.Proofs.YtibchilpaaiecaaGreatDoor.L
