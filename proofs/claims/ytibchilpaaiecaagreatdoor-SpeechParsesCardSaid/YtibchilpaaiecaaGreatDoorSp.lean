/- The iterator of strings.SplitSeq, at a separator of one byte: its contract. -/
import Derived.Test.YtibchilpaaiecaaGreatDoorM20
import Derived.Test.YtibchilpaaiecaaGreatDoorSh
import Derived.RangeFuncNested
import Derived.RangeFuncCalls
import Derived.RangeFuncLeaves
import Derived.Shelf.Abstract
import Derived.WalkKit
import Derived.OwnWalkIn
import Derived.TacticsInMore
import Derived.LoopNIn
import Derived.LoopIn
import Derived.Shelf.Strings.Builder1
import Derived.Shelf.Strings.Builder2
import Derived.Lib.Case
import Derived.Lib.TrimByte
import Derived.Lib.Join
import Derived.BigCall
import Derived.BigGuard
import Derived.Test.YtibchilpaaiecaaGreatDoorM25
import Derived.Shelf.Strings.SplitCore
import Derived.Shelf.Strings.Split
set_option linter.all false
namespace Go.Proofs.YtibchilpaaiecaaGreatDoor.F
open Go.Proofs.YtibchilpaaiecaaGreatDoor.M Go.Proofs Go.RowKit Go.Shelf Go
attribute [local go_sem] Oper.semAt_some
theorem E9 : ∀ (l : List UInt8) (c : UInt8), (Lib.indexByte l c = -1 ∧ au c l = [(l, l)]) ∨ ∃ i : Nat, Lib.indexByte l c = i ∧ i < l.length ∧ au c l = (l.take i, l) :: au c (l.drop (i + 1))
 | [], c => .inl ⟨rfl, rfl⟩
 | b :: l, c => by
  by_cases hb : b = c
  ·subst hb
   exact .inr ⟨0, by simp [Lib.indexByte], by simp, by simp [au]⟩
  ·have hb' : (b == c) = false := by simpa using hb
   rcases E9 l c with ⟨h1, h2⟩ | ⟨i, h1, h2, h3⟩
   ·exact .inl ⟨by simp [Lib.indexByte, hb', h1], by simp [au, hb, h2]⟩
   ·refine .inr ⟨i + 1, ?_, by simp; omega, ?_⟩
    ·have : ((i : Int) == -1) = false := by simp
     simp [Lib.indexByte, hb', h1, this]
    ·simp [au, hb, h3]
def Ax (bs : Nat) (W : World) : Nat := match W.cell? ⟨bs, 0, none⟩ with | some (.string s) => s.size | _ => 0
set_option maxHeartbeats 4000000 in
set_option maxRecDepth 100000 in
theorem Ds : rR Tryz.prog 118 := by
 refine ⟨enters_of Tryz.func118 (by kernel_rfl) rfl, fun l bp bs bv c A B Jx hne1 hne2 hA hB s W hlen hS => ?_⟩
 refine callsIn_of_wp Tryz.func118 rfl trivial ?_ rfl
 simp only [Tryz.ntmps118, List.size_toArray, List.length_cons, List.length_nil, Nat.reduceAdd, Nat.reduceSub, Array.replicate_succ, Array.replicate_zero, List.push_toArray, List.append_toArray, List.nil_append, List.cons_append]
 obtain ⟨x0, xs0, hsp0⟩ := jh c s
 have hS0 := hS
 rw [hsp0] at hS0
 obtain ⟨it0, _⟩ := hA _ _ _ _ hS0
 have c1 := it0.p; have c2 := it0.s; have c3 := it0.v
 gi_wp2
 gi_loopw [] (fun (wr : World) => ∃ x r xs, A ((x, r) :: xs) wr ∧ au c r = (x, r) :: xs ∧ r.length ≤ 4611686018427387904) (fun (wr : World) => Ax bs wr)
 case atStart => exact ⟨x0, s, xs0, hS0, hsp0, hlen⟩
 case round =>
  obtain ⟨x, r, xs, hAr, hsp, hr⟩ := hrel
  obtain ⟨it, hy⟩ := hA _ _ _ _ hAr
  have c1 := it.p; have c2 := it.s; have c3 := it.v
  obtain ⟨fn, tmps, assign, body, hyr, hR⟩ := hy
  have hI0 := Tryz.strings_Index_one ⟨r.toArray⟩ c wr
  rcases E9 r c with ⟨h1, h2⟩ | ⟨i, h1, h2, h3⟩
  ·have hI : Calls Tryz.prog 115 #[.string ⟨r.toArray⟩, .string ⟨#[c]⟩] wr (fun e w' => e = .returned (.int .i64 (-1)) ∧ w' = wr) := by simpa [h1] using hI0
   clear hI0
   rw [h2] at hsp
   simp only [List.cons.injEq, Prod.mk.injEq, and_true] at hsp
   obtain ⟨rfl, rfl⟩ := hsp
   gi_wp2_with (refine ⟨trivial, rfl, ?_⟩; gi_at_call 115; refine (callsIn_wide.2 hI).mono ?_; rintro e w' ⟨rfl, rfl⟩)
   refine ⟨rfl, hR.mono ?_⟩
   rintro e W' (⟨rfl, hB'⟩ | ⟨rfl, hJ'⟩)
   ·gi_wp2
    go_end0
    exact ⟨⟨_, rfl⟩, .inl ⟨_, _, hB'⟩⟩
   ·gi_wp2
    go_end0
    exact ⟨⟨_, rfl⟩, .inr hJ'⟩
  ·have hI : Calls Tryz.prog 115 #[.string ⟨r.toArray⟩, .string ⟨#[c]⟩] wr (fun e w' => e = .returned (.int .i64 (i : Int)) ∧ w' = wr) := by simpa [h1] using hI0
   clear hI0
   have hlt : ¬ ((i : Int) < 0) := by omega
   rw [h3] at hsp
   simp only [List.cons.injEq, Prod.mk.injEq, and_true] at hsp
   obtain ⟨rfl, rfl⟩ := hsp
   have hx : (⟨(r.take i).toArray⟩ : ByteArray) = (ByteArray.mk r.toArray).extract 0 i := by
    apply ByteArray.ext
    simp [ByteArray.data_extract]
   rw [hx] at hyr
   gi_wp2_with (refine ⟨trivial, rfl, ?_⟩; gi_at_call 115; refine (callsIn_wide.2 hI).mono ?_; rintro e w' ⟨rfl, rfl⟩)
   refine ⟨rfl, hR.mono ?_⟩
   rintro e W' (⟨rfl, hB'⟩ | ⟨rfl, hJ'⟩)
   ·obtain ⟨it', hnext⟩ := hB _ _ _ _ hB'
    have c1 := it'.p; have c2 := it'.s; have c3 := it'.v; have c4 := it'.f
    obtain ⟨x2, xs2, hsp2⟩ := jh c (r.drop (i + 1))
    have hx2 : (ByteArray.mk r.toArray).extract (i + 1) r.length = ⟨(r.drop (i + 1)).toArray⟩ := by
     apply ByteArray.ext
     apply Array.ext'
     simp [ByteArray.data_extract, List.take_of_length_le]
    gi_wp2
    go_roundw
    case rel =>
     have := hnext x2 _ xs2 hsp2
     rw [hsp2] at this
     exact ⟨x2, r.drop (i + 1), xs2, this, hsp2, by simp; omega⟩
    case measure =>
     have e1 : Ax bs w' = r.length := by unfold Ax; rw [it.s]; rfl
     have e2 : ∀ v, Ax bs (W'.setCell ⟨bs, 0, none⟩ (.string v)) = v.size := fun v => by
      unfold Ax; rw [World.cell?_setCell_same' _ _ _ (by rw [it'.s]; rfl)]
     rw [e1, e2]
     show (r.drop (i + 1)).toArray.size < r.length
     simp; omega
   ·gi_wp2
    refine bodyPost_ret (results_none rfl _ _ _) rfl ?_
    exact ⟨⟨_, rfl⟩, .inr hJ'⟩
end Go.Proofs.YtibchilpaaiecaaGreatDoor.F
/- path.Text: its contract; taken in as what a call comes to. -/
set_option linter.all false
namespace Go.Proofs.YtibchilpaaiecaaGreatDoor.F
open Go.Proofs.YtibchilpaaiecaaGreatDoor.M Go.Proofs Go.Shelf Go.RowKit Go
theorem hidP {p : Prop} (h : p) : Hid p := h
theorem sb {B : Nat} {e : TypeId} {k : Nat} {v : Value} {n : Nat} {xs : List Value} {w w' : World} (h : w.ownsRow B e k v n xs) (hb : Below w.heap.size w w') : w'.ownsRow B e k v n xs := by
 obtain ⟨h1, h2⟩ := h
 refine ⟨h1, ?_⟩
 rcases h2 with h2 | ⟨g, cap, cur, q1, q2, q3, q4⟩
 ·exact .inl h2
 ·exact .inr ⟨g, cap, cur, q1, q2, (hb.block g (Array.getElem?_eq_some_iff.1 q3).1).trans q3, q4⟩
theorem kd {T e : TypeId} {B b : Nat} {bs : List Value} {w w' : World} (h : Lib.IsBuilder T e B b bs w) (hb : Below w.heap.size w w') : Lib.IsBuilder T e B b bs w' := by
 have key : ∀ p, Lib.BuilderAt T e B b p bs w → Lib.BuilderAt T e B b p bs w' := fun p ⟨h1, v, h2, h3, h4⟩ => ⟨h1, v, (hb.block b (Array.getElem?_eq_some_iff.1 h2).1).trans h2, sb h3 hb, h4⟩
 exact h.elim (fun x => .inl (key _ x)) (fun x => .inr (key _ x))
def dotT (l : List Int) : List UInt8 := Lib.join (l.map Lib.itoa) [46]
theorem Ay (xs : List (List UInt8)) (y sep : List UInt8) (h : xs ≠ []) : Lib.join (xs ++ [y]) sep = Lib.join xs sep ++ sep ++ y := by
 cases xs with
 | nil => exact absurd rfl h
 | cons x r => rw [List.cons_append, Lib.join_cons, Lib.join_cons]; simp [Lib.joinTail]
theorem Dt {l : List Int} {x : Int} (hx : l[0]? = some x) : dotT (l.take (0 + 1)) = Lib.itoa x := by
 cases l with
 | nil => simp at hx
 | cons y r => simp at hx; subst hx; simp [dotT, Lib.join_one]
theorem Az {l : List Int} {k : Nat} {x : Int} (hk : k ≠ 0) (hx : l[k]? = some x) : dotT (l.take (k + 1)) = dotT (l.take k) ++ [46] ++ Lib.itoa x := by
 unfold dotT
 rw [List.take_succ, hx]
 simp only [Option.toList_some, List.map_append, List.map_cons, List.map_nil]
 refine Ay _ _ _ fun e => hk ?_
 have hl := (List.getElem?_eq_some_iff.1 hx).1
 have := congrArg List.length e
 rw [List.length_map, List.length_take, List.length_nil] at this
 omega
theorem AA : ∀ (k u : Nat), u < 10 ^ (k + 1) → (Lib.decDigits u).length ≤ k + 1
 | 0, u, h => by rw [Lib.decDigits, dif_pos (by simpa using h)]; simp
 | k + 1, u, h => by
  rw [Lib.decDigits]
  split
  ·simp
  ·have := AA k (u / 10) (by rw [Nat.pow_succ] at h; omega)
   simp; omega
theorem vP {n : Int} (h0 : -9223372036854775808 ≤ n) (h1 : n ≤ 9223372036854775807) : (Lib.itoa n).length ≤ 21 := by
 unfold Lib.itoa
 split
 ·have := AA 19 n.natAbs (by omega)
  simp; omega
 ·have := AA 19 n.toNat (by omega)
  omega
theorem AB (l : List Int) (hr : ∀ x ∈ l, -9223372036854775808 ≤ x ∧ x ≤ 9223372036854775807) : (dotT l).length ≤ 22 * l.length := by
 have key : ∀ r : List Int, (∀ x ∈ r, -9223372036854775808 ≤ x ∧ x ≤ 9223372036854775807) → (Lib.joinTail [46] (r.map Lib.itoa)).length ≤ 22 * r.length := by
  intro r
  induction r with
  | nil => intro _; simp [Lib.joinTail]
  | cons y r ih =>
   intro h
   have := ih fun z hz => h z (by simp [hz])
   have hy := vP (h y (by simp)).1 (h y (by simp)).2
   simp only [Lib.joinTail, List.map_cons, List.flatten_cons, List.length_append, List.length_cons, List.length_nil] at this ⊢
   omega
 cases l with
 | nil => simp [dotT, Lib.join_nil]
 | cons x r =>
  have := key r fun z hz => hr z (by simp [hz])
  have hy := vP (hr x (by simp)).1 (hr x (by simp)).2
  rw [dotT, List.map_cons, Lib.join_cons, List.length_append, List.length_cons]
  omega
theorem Du {l : List Int} : l.take l.length = l := List.take_of_length_le (Nat.le_refl _)
set_option maxHeartbeats 4000000 in
set_option maxRecDepth 100000 in
theorem qU (a : Option Addr) (cap : Nat) (w : World) :
  Calls Tryz.prog 105 #[.slice a 0 cap] w fun e w' => e = .returned (.string ⟨#[]⟩) ∧ Below w.heap.size w w' := by
 go_enter Tryz.func105, Tryz.ntmps105
 go_wp2_with fail
 refine wp_loop_rounds 1 ?_
 rw [rounds_succ]
 go_wp2_with (go_at_call 72; refine (Tryz.Builder_String_any w.heap.size w.heap.size [] _ (Lib.fresh_isBuilder 107 5 w) (by simp)).mono ?_; rintro e w1 ⟨rfl, hb⟩)
 go_ret
 exact ⟨rfl, ((Below.refl w.heap.size w).alloc (Nat.le_refl _) _).trans hb⟩
set_option maxHeartbeats 4000000 in
set_option maxRecDepth 100000 in
theorem yO (bk o cap : Nat) (l : List Int) (w : World) (hcells : ∀ (j : Nat) x, l[j]? = some x → w.cell? ⟨bk, o + j, none⟩ = some (.int .i64 x)) (hbk : bk < w.heap.size) (hl : l.length ≤ 1000000)
  (hr : ∀ x ∈ l, -9223372036854775808 ≤ x ∧ x ≤ 9223372036854775807) (htab : ∀ w', Below w.heap.size w w' → Lib.TabIs Tryz.prog w' "internal/strconv.uint64pow10" .u64 Lib.pow10Tab) :
  Calls Tryz.prog 105 #[.slice (some ⟨bk, o, none⟩) l.length cap] w fun e w' => e = .returned (.string ⟨(dotT l).toArray⟩) ∧ Below w.heap.size w w' := by
 have HC := hidP hcells
 have HT := hidP htab
 have HR := hidP hr
 clear hcells htab hr
 go_enter Tryz.func105, Tryz.ntmps105
 go_wp2_with fail
 go_loopw [8] (fun i wr => ∃ k : Nat, k ≤ l.length ∧ i = .int .i64 k ∧ Hid (Lib.IsBuilder 107 5 w.heap.size w.heap.size (Lib.byteCells (dotT (l.take k))) wr) ∧ Hid (Below w.heap.size w wr)) (fun i _ => l.length - (intOf i).toNat)
 case atStart => exact ⟨0, Nat.zero_le _, rfl, hidP (Lib.fresh_isBuilder 107 5 w), hidP ((Below.refl w.heap.size w).alloc (Nat.le_refl _) _)⟩
 case round =>
  obtain ⟨k, hk, rfl, HB, HW⟩ := hrel
  have hBw : w.heap.size ≤ wr.heap.size := HW.out.size
  by_cases hkn : k < l.length
  ·obtain ⟨x, hx⟩ : ∃ x, l[k]? = some x := ⟨l[k], List.getElem?_eq_getElem hkn⟩
   have hc : wr.cell? ⟨bk, o + k, none⟩ = some (.int .i64 x) := by
    rw [HW.out.cell (p := ⟨bk, o + k, none⟩) hbk]
    exact HC.out k x hx
   have hxr := HR.out x (List.mem_of_getElem? hx)
   have hil := vP hxr.1 hxr.2
   have htl := AB (l.take k) fun z hz => HR.out z (List.mem_of_mem_take hz)
   have htk : (l.take k).length = k := by rw [List.length_take]; omega
   rw [htk] at htl
   have hsz : (⟨(Lib.itoa x).toArray⟩ : ByteArray).size = (Lib.itoa x).length := by simp [ByteArray.size]
   have hsc : Lib.strCells ⟨(Lib.itoa x).toArray⟩ = Lib.byteCells (Lib.itoa x) := by rw [Lib.strCells_eq]
   rcases Nat.eq_zero_or_pos k with hk0 | hk0
   ·subst hk0
    rw [Nat.add_zero] at hc
    have hone := Dt hx
    have hB0 : Lib.IsBuilder 107 5 w.heap.size w.heap.size [] wr := HB.out
    have HB0 := hidP hB0
    have HX := hidP hone
    have HS := hidP hsc
    clear hB0 hone hsc hx
    go_wp2_with fail
    refine (Tryz.strconv_Itoa x hxr.1 hxr.2 wr (HT.out wr HW.out)).mono ?_
    rintro e w2 ⟨rfl, n, os, hw2⟩
    have hb2 : Below wr.heap.size wr w2 := by rw [hw2]; exact nE wr n os
    have H2 := hidP (kd HB0.out hb2)
    have Hb2 := hidP (HW.out.trans (hb2.mono hBw))
    have hBw2 : w.heap.size ≤ w2.heap.size := Nat.le_trans hBw hb2.size
    clear hb2 hw2
    go_wp2_with fail
    refine (Tryz.Builder_WriteString w.heap.size w.heap.size [] ⟨(Lib.itoa x).toArray⟩ w2 H2.out (by rw [hsz]; simp; omega) hBw2).mono ?_
    rintro e w3 ⟨rfl, h3, hb3⟩
    rw [HS.out, List.nil_append, ← HX.out] at h3
    have H3 := hidP (Or.inr h3 : Lib.IsBuilder 107 5 w.heap.size w.heap.size _ w3)
    have Hb3 := hidP (Hb2.out.trans hb3)
    clear h3 hb3
    go_wp2
    exact ⟨⟨1, by omega, by go_num, H3, Hb3⟩, by simp [intOf]; omega⟩
   ·have hmore := Az (by omega) hx
    have HX := hidP hmore
    have HS := hidP hsc
    have hlb : (Lib.byteCells (dotT (l.take k))).length = (dotT (l.take k)).length := Lib.byteCells_length _
    have hgt : ((k : Int) > 0) := by omega
    clear hmore hsc hx
    generalize hD : dotT (l.take k) = D at *
    go_wp2_with fail
    refine (Tryz.Builder_WriteByte w.heap.size w.heap.size _ 46 wr HB.out (by rw [hlb]; omega) hBw).mono ?_
    rintro e w1 ⟨rfl, h1, hb1⟩
    have H1 := hidP (Or.inr h1 : Lib.IsBuilder 107 5 w.heap.size w.heap.size _ w1)
    have Hb1 := hidP (HW.out.trans hb1)
    have hBw1 : w.heap.size ≤ w1.heap.size := Hb1.out.size
    clear h1 hb1
    go_wp2_with fail
    refine (Tryz.strconv_Itoa x hxr.1 hxr.2 w1 (HT.out w1 Hb1.out)).mono ?_
    rintro e w2 ⟨rfl, n, os, hw2⟩
    have hb2 : Below w1.heap.size w1 w2 := by rw [hw2]; exact nE w1 n os
    have H2 := hidP (kd H1.out hb2)
    have Hb2 := hidP (Hb1.out.trans (hb2.mono hBw1))
    have hBw2 : w.heap.size ≤ w2.heap.size := Nat.le_trans hBw1 hb2.size
    clear hb2 hw2
    go_wp2_with fail
    refine (Tryz.Builder_WriteString w.heap.size w.heap.size _ ⟨(Lib.itoa x).toArray⟩ w2 H2.out (by rw [hsz, List.length_append, hlb]; simp; omega) hBw2).mono ?_
    rintro e w3 ⟨rfl, h3, hb3⟩
    have hcat : Lib.byteCells D ++ [.int .u8 46] ++ Lib.byteCells (Lib.itoa x) = Lib.byteCells (D ++ [46] ++ Lib.itoa x) := by
     rw [Lib.byteCells_append, Lib.byteCells_append]; rfl
    rw [HS.out, hcat, ← HX.out] at h3
    have H3 := hidP (Or.inr h3 : Lib.IsBuilder 107 5 w.heap.size w.heap.size _ w3)
    have Hb3 := hidP (Hb2.out.trans hb3)
    clear h3 hb3 hcat
    go_wp2
    exact ⟨⟨k + 1, by omega, by go_num, H3, Hb3⟩, by simp [intOf]; omega⟩
  ·have hke : k = l.length := by omega
   subst hke
   have hB' := HB.out
   rw [Du] at hB'
   go_wp2_with fail
   refine (Tryz.Builder_String_any w.heap.size w.heap.size _ wr hB' hBw).mono ?_
   rintro e w5 ⟨rfl, hb5⟩
   have Hb5 := hidP (HW.out.trans hb5)
   clear hb5 hB'
   go_wp2
   go_ret
   exact ⟨rfl, Hb5.out⟩
def decZ : List (List AV) → Option (List Int)
 | [] => some []
 | [.int .i64 n] :: r => (decZ r).map (n :: ·)
 | _ => none
def inI (l : List Int) : Bool := l.all fun x => decide (-9223372036854775808 ≤ x) && decide (x ≤ 9223372036854775807)
def qV : List AV → AH → Option (AV × AH)
 | [.sl _ es], h => match decZ es with
  | some l => if l.length ≤ 1000000 ∧ inI l = true then some (.str ⟨(dotT l).toArray⟩, h) else none
  | none => none
 | _, _ => none
theorem Hb {l : List Int} (h : inI l = true) : ∀ x ∈ l, -9223372036854775808 ≤ x ∧ x ≤ 9223372036854775807 := by
 intro x hx
 have := List.all_eq_true.1 h x hx
 simpa using this
theorem qW {g : Gh} {w : World} (hp : ∀ B o v, g.prot B o = some v → w.cell? ⟨B, o, none⟩ = some v) : ∀ {es : List (List AV)} {xs : List Int} {B o : Nat}, decZ es = some xs → PE g es B o →
  xs.length = es.length ∧ ∀ (j : Nat) x, xs[j]? = some x → w.cell? ⟨B, o + j, none⟩ = some (.int .i64 x)
 | [], xs, B, o, h, _ => by simp [decZ] at h; subst h; simp
 | e :: r, xs, B, o, h, hq => by
  match e, h with
  | [], h => simp [decZ] at h
  | _ :: _ :: _, h => simp [decZ] at h
  | [a], h =>
   have hn : ∃ n, a = .int .i64 n := by
    cases a <;> try (simp [decZ] at h; done)
    rename_i k n
    cases k <;> first | exact ⟨n, rfl⟩ | (simp [decZ] at h; done)
   obtain ⟨n, rfl⟩ := hn
   simp only [decZ, Option.map_eq_some_iff] at h
   obtain ⟨ys, hy, rfl⟩ := h
   simp only [PE, PR, List.length_cons, List.length_nil] at hq
   obtain ⟨⟨⟨u, hu, hv, _⟩, _⟩, hr⟩ := hq
   simp only [VR] at hv
   subst hv
   obtain ⟨h1, h2⟩ := qW hp hy hr
   refine ⟨by simp [h1], fun j x hj => ?_⟩
   cases j with
   | zero => simp at hj; subst hj; exact hp _ _ _ hu
   | succ j =>
    have := h2 j x (by simpa using hj)
    rw [show o + (j + 1) = o + (0 + 1) + j by omega]; exact this
theorem Dv (hc : dx Tryz.prog 105) (tab : ∀ w0 w : World, GW w0 → Below w0.heap.size w0 w → Lib.TabIs Tryz.prog w "internal/strconv.uint64pow10" .u64 Lib.pow10Tab) : cW Tryz.prog 105 (.prim qV) := by
 intro args h r h' hp K hK
 unfold qV at hp
 split at hp <;> try (cases hp; done)
 rename_i m es
 split at hp <;> try (cases hp; done)
 rename_i l hl
 split at hp <;> cases hp
 rename_i hlim
 refine iX hc rfl (fun w0 g n w vs hv hi => ?_) hK
 simp only [VL] at hv
 obtain ⟨_, _, rfl, hsl, rfl⟩ := hv
 simp only [VR] at hsl
 rcases hsl with ⟨rfl, _, a, rfl⟩ | ⟨B, o, cap, rfl, h2, _, _, _, hpe⟩
 ·obtain rfl : l = [] := by have : some ([] : List Int) = some l := hl; cases this; rfl
  refine (qU a 0 w).mono ?_
  rintro e w' ⟨rfl, hb⟩
  exact ⟨_, rfl, fun g => rfl, hb⟩
 ·obtain ⟨h3, h4⟩ := qW hi.prot hl hpe
  rw [← h3]
  cases hx : l with
  | nil =>
   refine (qU _ cap w).mono ?_
   rintro e w' ⟨rfl, hb⟩
   exact ⟨_, rfl, fun g => rfl, hb⟩
  | cons x ys =>
   rw [hx] at h4 hlim
   have hB : B < w.heap.size := by
    have := h4 0 x rfl
    rcases Nat.lt_or_ge B w.heap.size with hl | hl
    ·exact hl
    ·simp [World.cell?, Array.getElem?_eq_none hl] at this
   refine (yO B o cap (x :: ys) w h4 hB hlim.1 (Hb hlim.2) (fun w' hb => tab w0 w' hi.gw (hi.below.trans (hb.mono hi.below.size)))).mono ?_
   rintro e w' ⟨rfl, hb⟩
   exact ⟨_, rfl, fun g => rfl, hb⟩
end Go.Proofs.YtibchilpaaiecaaGreatDoor.F
/- strings.Split at a separator of one byte: what its call comes to, whatever internal/bytealg.MaxLen holds. -/
set_option linter.all false
namespace Go.Proofs.YtibchilpaaiecaaGreatDoor.F
open Go.Proofs.YtibchilpaaiecaaGreatDoor.M Go.Proofs Go.Shelf Go.RowKit Go
theorem J3 (s : ByteArray) (c : UInt8) (w : World) (hs : s.size < 4294967281) :
  Calls Tryz.prog 85 #[.string s, .string ⟨#[c]⟩, .int .i64 0, .int .i64 (-1)] w fun e w' =>
   e = .returned (.slice (some ⟨w.heap.size, 0, none⟩) (Lib.countB s ⟨#[c]⟩ + 1) (Lib.countB s ⟨#[c]⟩ + 1)) ∧ w' = w.alloc (.cells ((Lib.splitB ⟨#[c]⟩ 0 (Lib.countB s ⟨#[c]⟩) s).map Value.string).toArray 9) := by
 have h1 : 1 ≤ (⟨#[c]⟩ : ByteArray).size := Nat.le_refl 1
 have hle := Lib.countB_le ⟨#[c]⟩ h1 s.size s (Nat.le_refl _)
 have hlen := Lib.splitB_all ⟨#[c]⟩ h1 0 _ s rfl
 have g := Any.strings_genSplit_core Tryz.lays221 (by kernel_rfl) s ⟨#[c]⟩ 0 (-1) (Lib.countB s ⟨#[c]⟩ + 1) w hs h1 (Nat.zero_le _)
  (fun x d _ => by
   refine (Tryz.strings_Index_one x c _).mono ?_
   rintro e w' ⟨rfl, rfl⟩
   refine ⟨?_, rfl⟩
   show Ending.returned (Value.int .i64 (Lib.indexByte x.data.toList c)) = Ending.returned (Value.int .i64 (Lib.index x.data.toList [c]))
   rw [Lib.index_one])
  (by
   refine (Tryz.strings_Count_one s c w).mono ?_
   rintro e w' ⟨rfl, rfl⟩
   refine ⟨?_, rfl⟩
   show Ending.returned (Value.int .i64 (Lib.countByte s.data.toList c)) = Ending.returned (Value.int .i64 ((Lib.count s.data.toList [c] : Nat) : Int))
   rw [Lib.count_one]; rfl)
  (by decide) (by decide) (by rw [if_pos (by decide)]; omega)
 rw [Nat.add_sub_cancel, hlen] at g
 have e2 : Lib.cellsOf (Lib.splitB ⟨#[c]⟩ 0 (Lib.countB s ⟨#[c]⟩) s) (Lib.countB s ⟨#[c]⟩ + 1) = ((Lib.splitB ⟨#[c]⟩ 0 (Lib.countB s ⟨#[c]⟩) s).map Value.string).toArray := by rw [← hlen]; exact Lib.cellsOf_full _
 rw [e2] at g
 exact g
set_option maxHeartbeats 4000000 in
theorem nF (s : ByteArray) (c : UInt8) (w : World) (hs : s.size < 4294967281) :
  Calls Tryz.prog 42 #[.string s, .string ⟨#[c]⟩] w fun e w' =>
   e = .returned (.slice (some ⟨w.heap.size, 0, none⟩) (Lib.countB s ⟨#[c]⟩ + 1) (Lib.countB s ⟨#[c]⟩ + 1)) ∧ w' = w.alloc (.cells ((Lib.splitB ⟨#[c]⟩ 0 (Lib.countB s ⟨#[c]⟩) s).map Value.string).toArray 9) := by
 have g := J3 s c w hs
 go_enter Tryz.func42, Tryz.ntmps42
 go_wp2_with (go_at_call 85; refine g.mono ?_; rintro e w' ⟨rfl, hw⟩; rw [hw])
 go_ret
 exact ⟨rfl, rfl⟩
end Go.Proofs.YtibchilpaaiecaaGreatDoor.F
