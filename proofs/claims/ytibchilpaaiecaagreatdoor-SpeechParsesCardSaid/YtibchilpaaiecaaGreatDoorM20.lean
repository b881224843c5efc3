/- Arguments: flat structs and arrays of whole numbers. -/
import Derived.Test.YtibchilpaaiecaaGreatDoorM18
import Derived.OpenShut
import Derived.Lib.ItoaNum
import Derived.Lib.AtoiAll
import Derived.Lib.Bytealg
import Derived.Lib.Join
import Derived.Lib.LaidTab
import Derived.Lib.AtoiErrMem
import Derived.WalkSmall
import Derived.Shelf.Strconv.Itoa3
set_option linter.all false
namespace Go.Proofs.YtibchilpaaiecaaGreatDoor.M
open Go.RowKit Go.ChangeShapes Go.WideShapes
variable {P : Program} {w : World}
theorem Rd.agg {t : TypeId} {Q : List AV → Prop} (h : Rd P w t Q) {H : Type} {en : TypeId × Value → H} {vs : Array Value} {d : DataW H} {ps : List MemPlace}
  (hd : DataW.Trod en P w 0 (fun _ => true) true t (.agg vs) d ps) : ∃ ys, VR (gW w) (.agg ys) (.agg vs) ∧ (AV.agg ys).cl = true ∧ Q ys := by
 obtain ⟨ys, h1, h2, h3, h4⟩ := h.of_trod hd
 exact ⟨ys, by simp only [VR]; exact ⟨vs, rfl, h1, h3⟩, by simpa only [AV.cl] using h2, h4⟩
end Go.Proofs.YtibchilpaaiecaaGreatDoor.M
/- The rounds, computed: what a call on known inputs comes to, found by evaluation. -/
set_option linter.all false
namespace Go.Proofs.YtibchilpaaiecaaGreatDoor.M
open Go.RowKit
def gcC (h : AH) (r : AV) (h' : AH) : Option (AV × AH) :=
 if h'.length ≤ h.length ∨ h.length < r.mr then some (r, h')
 else if (h'.take h.length).all (fun b => Nat.ble (mrB b) h.length) then some (r, h'.take h.length) else none
theorem E6 {h h' : AH} {r : AV} {x : AV × AH} (hx : gcC h r h' = some x) : gc h r h' = some x := by
 unfold gcC at hx
 unfold gc
 by_cases hc : h'.length ≤ h.length ∨ h.length < r.mr
 ·rw [if_pos hc] at hx ⊢; exact hx
 ·rw [if_neg hc] at hx ⊢
  split at hx <;> cases hx
  rename_i hall
  rw [if_pos]
  intro i hi
  right
  have hlen : i < h'.length := by omega
  refine ⟨h'[i], by simp [hlen], ?_⟩
  have := List.all_eq_true.1 hall h'[i] (by
   rw [List.mem_iff_getElem?]
   exact ⟨i, by rw [List.getElem?_take, if_pos hi]; simp [hlen]⟩)
  exact Nat.le_of_ble_eq_true this
def binC (op : BinOp) (x y : AV) : Option AV :=
 match x, y, op with
 | .str a, .str b, .eql => some (.bool (a.data.toList == b.data.toList))
 | .str a, .str b, .neq => some (.bool (!(a.data.toList == b.data.toList)))
 | .str a, .str b, .lss => some (.bool (Op.bytesLess a.data.toList b.data.toList))
 | .str a, .str b, .leq => some (.bool (Op.bytesLess a.data.toList b.data.toList || a.data.toList == b.data.toList))
 | .str a, .str b, .gtr => some (.bool (!(Op.bytesLess a.data.toList b.data.toList || a.data.toList == b.data.toList)))
 | .str a, .str b, .geq => some (.bool (!Op.bytesLess a.data.toList b.data.toList))
 | x, y, op => binV op x y
theorem GZ (op : BinOp) (x y : AV) : binC op x y = binV op x y := by
 have ht : ∀ a : ByteArray, a.data.toList = a.toList := fun a => (Go.ByteArray.toList_eq a).symm
 unfold binC
 split <;> simp only [binV, ht]
def xopC (op : COp) (d : Option Nat) (ev : Opd → AV) (h : AH) : Option (Up × AH) :=
 match op with
 | .bin op x y => val d h (binC op (ev x) (ev y))
 | op => xop op d ev h
theorem G0 (op : COp) (d : Option Nat) (ev : Opd → AV) (h : AH) : xopC op d ev h = xop op d ev h := by
 unfold xopC
 split
 ·rw [GZ]; rfl
 ·rfl
def finC (rs : List RV) (h0 : AH) : St → Option (AV × AH)
 | (.exit _, _, _) => none
 | (_, σ, h) => (retV h rs σ).bind fun vs => gcC h0 (oneOf vs) h
def Af (T : Tbl) (rec : Rec) (f : FuncId) (args : List AV) (h : AH) : Option (AV × AH) :=
 match T f with
 | some (.code cf) => (rec cf.body (args ++ List.replicate (cf.ntmps - args.length) aa) h).bind (finC cf.res h)
 | some (.prim p) => p args h
 | _ => none
def effC (T : Tbl) (rec : Rec) (op : COp) (d : Option Nat) (σ : List AV) (h : AH) : Option (List AV × AH) :=
 match bZ op (ag σ) with
 | some (f, args, false) => (Af T rec f args h).map fun r => (putA σ d r.1, r.2)
 | some (f, args, true) => if mrL args = 0 then (Af T rec f args []).bind (finP σ d h) else none
 | none => (xopC op d (ag σ) h).map fun r => (putL σ r.1, r.2)
def opsC (T : Tbl) (rec : Rec) : List CO → List AV → AH → Option (List AV × AH)
 | [], σ, h => some (σ, h)
 | o :: r, σ, h => (effC T rec (aW o σ) o.dst σ h).bind fun s => opsC T rec r s.1 s.2
def Ag (T : Tbl) (rec : Rec) : List Nat → List (AH × AH) → List (CO × Bool) → List AV → AH → Option (List AV × AH)
 | S, E, [], σ, h => if S.isEmpty || E.isEmpty then some (σ, h) else none
 | S, E, p :: r, σ, h => (effC T rec (aW p.1 σ) p.1.dst σ h).bind fun s => Ag T rec (addS p σ S) (addE p h s.2 E) r s.1 s.2
def tZ (T : Tbl) (rec : Rec) : Rec
 | .skip, σ, h => some (.normal, σ, h)
 | .region ops, σ, h => (opsC T rec ops σ h).map fun s => (.normal, s)
 | .dregion ops, σ, h => (Ag T rec [] [] ops σ h).map fun s => (.normal, s)
 | .seq a b, σ, h => (rec a σ h).bind fun r => match r.1 with | .normal => rec b r.2.1 r.2.2 | _ => some r
 | .cond c x y, σ, h => match ag σ c with | .bool true => rec x σ h | .bool false => rec y σ h | _ => none
 | .block id c, σ, h => (rec c σ h).map (outB id)
 | .loop c, σ, h => (rec c σ h).bind fun r => match r.1 with | .normal => rec (.loop c) r.2.1 r.2.2 | _ => some r
 | .exit id, σ, h => some (.exit id, σ, h)
 | .ret, σ, h => some (.ret, σ, h)
 | .kill ws c, σ, h => rec c (dD ws σ) h
 | .both _ _, _, _ => none
 | .rsplit g p asg body, σ, h => rsS T (rec asg) (rec body) p σ h (ag σ g)
def evC (T : Tbl) : Nat → Rec
 | 0 => fun _ _ _ => none
 | n + 1 => tZ T (evC T n)
section
variable {T : Tbl} {r1 r2 : Rec}
def Le (a b : Rec) : Prop := ∀ c σ h r, a c σ h = some r → b c σ h = some r
theorem r7 (hr : Le r1 r2) {f : FuncId} {args : List AV} {h : AH} {x : AV × AH} (hx : Af T r1 f args h = some x) : ji T r2 f args h = some x := by
 unfold Af at hx; unfold ji
 cases hT : T f with
 | none => rw [hT] at hx; exact hx
 | some d =>
  rw [hT] at hx
  cases d with
  | prim p => exact hx
  | split => exact hx
  | code cf =>
   simp only [Option.bind_eq_some_iff] at hx ⊢
   obtain ⟨s, h1, h2⟩ := hx
   refine ⟨s, hr _ _ _ _ h1, ?_⟩
   obtain ⟨e, σ, h'⟩ := s
   cases e <;> simp only [finC, finF, Option.bind_eq_some_iff] at h2 ⊢
   ·obtain ⟨vs, q1, q2⟩ := h2; exact ⟨vs, q1, E6 q2⟩
   ·cases h2
   ·obtain ⟨vs, q1, q2⟩ := h2; exact ⟨vs, q1, E6 q2⟩
theorem Ah (hr : Le r1 r2) {op : COp} {d : Option Nat} {σ : List AV} {h : AH} {x : List AV × AH} (hx : effC T r1 op d σ h = some x) : xeff T r2 op d σ h = some x := by
 unfold effC at hx; unfold xeff
 cases hc : bZ op (ag σ) with
 | none => rw [hc] at hx; simp only [G0] at hx; exact hx
 | some p =>
  rw [hc] at hx
  obtain ⟨f, args, pu⟩ := p
  cases pu
  ·simp only [Option.map_eq_some_iff] at hx ⊢
   obtain ⟨y, q1, q2⟩ := hx; exact ⟨y, r7 hr q1, q2⟩
  ·simp only at hx ⊢
   split at hx <;> try (cases hx; done)
   rename_i hm
   rw [if_pos hm]
   simp only [Option.bind_eq_some_iff] at hx ⊢
   obtain ⟨y, q1, q2⟩ := hx; exact ⟨y, r7 hr q1, q2⟩
theorem Ai (hr : Le r1 r2) : ∀ {l : List CO} {σ : List AV} {h : AH} {x : List AV × AH}, opsC T r1 l σ h = some x → xops T r2 l σ h = some x
 | [], σ, h, x, hx => hx
 | o :: l, σ, h, x, hx => by
  simp only [opsC, xops, Option.bind_eq_some_iff] at hx ⊢
  obtain ⟨s, q1, q2⟩ := hx; exact ⟨s, Ah hr q1, Ai hr q2⟩
theorem w9 (hr : Le r1 r2) : ∀ {l : List (CO × Bool)} {S : List Nat} {E : List (AH × AH)} {σ : List AV} {h : AH} {x : List AV × AH}, Ag T r1 S E l σ h = some x → nA T r2 S E l σ h = some x
 | [], S, E, σ, h, x, hx => by
  simp only [Ag, nA] at hx ⊢
  split at hx <;> cases hx
  rename_i hs
  rw [if_pos]
  intro e he id hid
  simp only [Bool.or_eq_true, List.isEmpty_iff] at hs
  rcases hs with rfl | rfl
  ·cases hid
  ·cases he
 | p :: l, S, E, σ, h, x, hx => by
  simp only [Ag, nA, Option.bind_eq_some_iff] at hx ⊢
  obtain ⟨s, q1, q2⟩ := hx; exact ⟨s, Ah hr q1, w9 hr q2⟩
theorem Dk (hr : Le r1 r2) : Le (tZ T r1) (step T r2) := by
 intro c σ h r hx
 cases c with
 | skip => exact hx
 | region ops =>
  simp only [tZ, step, Option.map_eq_some_iff] at hx ⊢
  obtain ⟨s, q1, q2⟩ := hx; exact ⟨s, Ai hr q1, q2⟩
 | dregion ops =>
  simp only [tZ, step, Option.map_eq_some_iff] at hx ⊢
  obtain ⟨s, q1, q2⟩ := hx; exact ⟨s, w9 hr q1, q2⟩
 | seq a b =>
  simp only [tZ, step, Option.bind_eq_some_iff] at hx ⊢
  obtain ⟨s, q1, q2⟩ := hx
  refine ⟨s, hr _ _ _ _ q1, ?_⟩
  obtain ⟨e, σ1, h1⟩ := s
  cases e <;> simp only at q2 ⊢ <;> first | exact hr _ _ _ _ q2 | exact q2
 | cond c a b =>
  simp only [tZ, step] at hx ⊢
  cases hc : ag σ c <;> rw [hc] at hx <;> try (cases hx; done)
  rename_i v
  cases v <;> exact hr _ _ _ _ hx
 | block i c =>
  simp only [tZ, step, Option.map_eq_some_iff] at hx ⊢
  obtain ⟨s, q1, q2⟩ := hx; exact ⟨s, hr _ _ _ _ q1, q2⟩
 | loop c =>
  simp only [tZ, step, Option.bind_eq_some_iff] at hx ⊢
  obtain ⟨s, q1, q2⟩ := hx
  refine ⟨s, hr _ _ _ _ q1, ?_⟩
  obtain ⟨e, σ1, h1⟩ := s
  cases e <;> simp only at q2 ⊢ <;> first | exact hr _ _ _ _ q2 | exact q2
 | exit i => exact hx
 | ret => exact hx
 | kill ws c => exact hr _ _ _ _ hx
 | rsplit g p asg body => exact wS asg body p σ h (ag σ g) r1 r2 hr r hx
 | both a b => cases hx
theorem E7 : ∀ n, Le (evC T n) (ev T n)
 | 0 => fun _ _ _ _ h => by cases h
 | n + 1 => Dk (E7 n)
theorem fm {n : Nat} {f : FuncId} {args : List AV} {h : AH} {x : AV × AH} (hx : Af T (evC T n) f args h = some x) : run T f args h = some x :=
 r7 (fun c σ h r hc => tV (E7 n c σ h r hc)) hx
end
end Go.Proofs.YtibchilpaaiecaaGreatDoor.M
/- Contracts of the library's functions, taken in as what calls come to. -/
set_option linter.all false
namespace Go.Proofs.YtibchilpaaiecaaGreatDoor.M
open Go Go.RowKit Go.Sort
section
variable {P : Program}
theorem iX {f : FuncId} {args : List AV} {h : AH} {r : AV} (hc : dx P f) (hcl : r.cl = true)
  (hcall : ∀ (w0 : World) (g : Gh) (n : Nat → Nat) (w : World) (vs : List Value), VL g args vs → Inv w0 g h n w → Calls P f vs.toArray w fun e w' => ∃ u, e = .returned u ∧ (∀ g, VR g r u) ∧ Below w.heap.size w w')
  {K : AV → AH → Prop} (hK : K r h) : eU P f args h K := by
 refine ⟨hc, fun w0 g n w vs hv hcl' hi => ?_, r, h, hK⟩
 refine (hcall w0 g n w vs hv hi).mono ?_
 rintro e w' ⟨u, rfl, hvr, hb⟩
 exact ⟨g, r, u, h, rfl, hK, Gh.le.refl g, fun B hB => ⟨hb.block B (hi.n_lt hB), fun _ => rfl⟩, hvr g, oL hcl, (hi.grow hb).le fun B => by rw [oK hcl]; omega⟩
theorem nE (w : World) (k : Nat) (os : Array Obj) : Below w.heap.size w (grow (w.drewN k) os) :=
 (below_drewN (Below.refl _ w) k).trans ⟨rfl, rfl, rfl, by simp [grow], fun j hj => by
  have hj' : j < (w.drewN k).heap.size := hj
  show ((w.drewN k).heap ++ os)[j]? = (w.drewN k).heap[j]?
  exact Array.getElem?_append_left hj'⟩
def Aj : List AV → AH → Option (AV × AH)
 | [.int .i64 n], h => if -9223372036854775808 ≤ n ∧ n ≤ 9223372036854775807 then some (.str ⟨(Lib.itoa n).toArray⟩, h) else none
 | _, _ => none
theorem G1 {f : FuncId} (hc : dx P f) (tab : ∀ w0 w : World, GW w0 → Below w0.heap.size w0 w → Lib.TabIs P w "internal/strconv.uint64pow10" .u64 Lib.pow10Tab)
  (H : ∀ n : Int, -9223372036854775808 ≤ n → n ≤ 9223372036854775807 → ∀ w : World, Lib.TabIs P w "internal/strconv.uint64pow10" .u64 Lib.pow10Tab → Calls P f #[.int .i64 n] w fun e w' => e = .returned (.string ⟨(Lib.itoa n).toArray⟩) ∧ ∃ k os, w' = grow (w.drewN k) os) :
  cW P f (.prim Aj) := by
 intro args h r h' hp K hK
 unfold Aj at hp
 split at hp <;> try (cases hp; done)
 rename_i n
 split at hp <;> cases hp
 rename_i hn
 refine iX hc rfl (fun w0 g m w vs hv hi => ?_) hK
 simp only [VL, VR] at hv
 obtain ⟨_, _, rfl, rfl, rfl⟩ := hv
 refine (H n hn.1 hn.2 w (tab w0 w hi.gw hi.below)).mono ?_
 rintro e w' ⟨rfl, k, os, rfl⟩
 exact ⟨_, rfl, fun g => rfl, nE w k os⟩
def n4 (t : TypeId) (s : List UInt8) : AV :=
 match Lib.atoiAll s with
 | .ok v => .tup [.int .i64 v, .nili]
 | .range => .tup [.int .i64 (Lib.atoiSat s), .iface t .any]
 | _ => .tup [.int .i64 0, .iface t .any]
def Ak (t : TypeId) : List AV → AH → Option (AV × AH)
 | [.str s], h => if Nat.ble s.size 281474976710656 then some (n4 t s.data.toList, h) else none
 | _, _ => none
theorem G2 {f : FuncId} {t eb : TypeId} (hc : dx P f)
  (H1 : ∀ (s : ByteArray), s.size ≤ 9223372036854775806 → ∀ v, Lib.atoiAll s.data.toList = .ok v → ∀ w, Calls P f #[.string s] w fun e w' => e = .returned (.tuple #[.int .i64 v, .nilIface]) ∧ (w' = w ∨ ∃ x, w' = Lib.bytesWorld w eb x))
  (H2 : ∀ (s : ByteArray), s.size ≤ 281474976710656 → Lib.atoiAll s.data.toList = Lib.atoiAll [] → ∀ w0 w, GW w0 → Below w0.heap.size w0 w → Calls P f #[.string s] w fun e w' => ∃ N, e = .returned (.tuple #[.int .i64 0, .iface t (.pointer (some ⟨N, 0, none⟩))]) ∧ Below w.heap.size w w')
  (H3 : ∀ (s : ByteArray), s.size ≤ 281474976710656 → Lib.atoiAll s.data.toList = .range → ∀ w0 w, GW w0 → Below w0.heap.size w0 w → Calls P f #[.string s] w fun e w' => ∃ N, e = .returned (.tuple #[.int .i64 (Lib.atoiSat s.data.toList), .iface t (.pointer (some ⟨N, 0, none⟩))]) ∧ Below w.heap.size w w') :
  cW P f (.prim (Ak t)) := by
 intro args h r h' hp K hK
 unfold Ak at hp
 split at hp <;> try (cases hp; done)
 rename_i s
 split at hp <;> cases hp
 rename_i hn
 have hn' := Nat.le_of_ble_eq_true hn
 have hcl : (n4 t s.data.toList).cl = true := by unfold n4; split <;> rfl
 refine iX hc hcl (fun w0 g m w vs hv hi => ?_) hK
 simp only [VL, VR] at hv
 obtain ⟨_, _, rfl, rfl, rfl⟩ := hv
 unfold n4
 cases hr : Lib.atoiAll s.data.toList with
 | ok v =>
  refine (H1 s (by omega) v hr w).mono ?_
  rintro e w' ⟨rfl, hw⟩
  refine ⟨_, rfl, fun g => ⟨#[.int .i64 v, .nilIface], rfl, _, _, rfl, rfl, _, _, rfl, rfl, rfl⟩, ?_⟩
  rcases hw with rfl | ⟨x, rfl⟩
  ·exact Below.refl _ _
  ·exact Lib.bytesWorld_below w eb x
 | range =>
  refine (H3 s hn' hr w0 w hi.gw hi.below).mono ?_
  rintro e w' ⟨N, rfl, hb⟩
  exact ⟨_, rfl, fun g => ⟨#[.int .i64 _, .iface t (.pointer (some ⟨N, 0, none⟩))], rfl, _, _, rfl, rfl, _, _, rfl, ⟨_, rfl, trivial, rfl⟩, rfl⟩, hb⟩
 | _ =>
  refine (H2 s hn' hr w0 w hi.gw hi.below).mono ?_
  rintro e w' ⟨N, rfl, hb⟩
  exact ⟨_, rfl, fun g => ⟨#[.int .i64 0, .iface t (.pointer (some ⟨N, 0, none⟩))], rfl, _, _, rfl, rfl, _, _, rfl, ⟨_, rfl, trivial, rfl⟩, rfl⟩, hb⟩
def po : List AV → AH → Option (AV × AH)
 | [.str s, .str d], h => match d.data.toList with | [c] => some (.int .i64 (Lib.indexByte s.data.toList c), h) | _ => none
 | _, _ => none
theorem Al {f : FuncId} (hc : dx P f)
  (H : ∀ (s : ByteArray) (c : UInt8) (w : World), Calls P f #[.string s, .string ⟨#[c]⟩] w fun e w' => e = .returned (.int .i64 (Lib.indexByte s.data.toList c)) ∧ w' = w) : cW P f (.prim po) := by
 intro args h r h' hp K hK
 unfold po at hp
 split at hp <;> try (cases hp; done)
 rename_i s d
 split at hp <;> cases hp
 rename_i c hd
 refine iX hc rfl (fun w0 g m w vs hv hi => ?_) hK
 simp only [VL, VR] at hv
 obtain ⟨_, _, rfl, rfl, _, _, rfl, rfl, rfl⟩ := hv
 have hd' : d = ⟨#[c]⟩ := by
  cases d; simp only at hd; congr; exact Array.ext' hd
 subst hd'
 refine (H s c w).mono ?_
 rintro e w' ⟨rfl, rfl⟩
 exact ⟨_, rfl, fun g => rfl, Below.refl _ _⟩
def decS : List (List AV) → Option (List ByteArray)
 | [] => some []
 | [.str x] :: r => (decS r).map (x :: ·)
 | _ => none
def JU (xs : List ByteArray) (sep : ByteArray) : ByteArray := ⟨(Lib.join (xs.map (·.data.toList)) sep.data.toList).toArray⟩
def cU : List AV → AH → Option (AV × AH)
 | [.sl _ es, .str sep], h => match decS es with
  | some xs => if xs.length ≤ 140737488355328 ∧ (Lib.join (xs.map (·.data.toList)) sep.data.toList).length ≤ 140737488355328 then some (.str (JU xs sep), h) else none
  | none => none
 | _, _ => none
theorem qS {g : Gh} {w : World} (hp : ∀ B o v, g.prot B o = some v → w.cell? ⟨B, o, none⟩ = some v) : ∀ {es : List (List AV)} {xs : List ByteArray} {B o : Nat}, decS es = some xs → PE g es B o →
  xs.length = es.length ∧ ∀ (j : Nat) x, xs[j]? = some x → w.cell? ⟨B, o + j, none⟩ = some (.string x)
 | [], xs, B, o, h, _ => by simp [decS] at h; subst h; simp
 | e :: r, xs, B, o, h, hq => by
  match e, h with
  | [], h => simp [decS] at h
  | _ :: _ :: _, h => simp [decS] at h
  | [a], h =>
   cases a <;> simp only [decS, Option.map_eq_some_iff, reduceCtorEq] at h
   rename_i s
   obtain ⟨ys, hy, rfl⟩ := h
   simp only [PE, PR, List.length_cons, List.length_nil] at hq
   obtain ⟨⟨⟨u, hu, hv, _⟩, _⟩, hr⟩ := hq
   simp only [VR] at hv
   subst hv
   obtain ⟨h1, h2⟩ := qS hp hy hr
   refine ⟨by simp [h1], fun j x hj => ?_⟩
   cases j with
   | zero => simp at hj; subst hj; exact hp _ _ _ hu
   | succ j =>
    have := h2 j x (by simpa using hj)
    rw [show o + (j + 1) = o + (0 + 1) + j by omega]; exact this
theorem G3 {f : FuncId} (hc : dx P f)
  (H0 : ∀ (a : Option Addr) (c : Nat) (sep : ByteArray) (w : World), Calls P f #[.slice a 0 c, .string sep] w fun e w' => e = .returned (.string ⟨#[]⟩) ∧ w' = w)
  (H : ∀ (bk o c : Nat) (xs : List ByteArray) (sep : ByteArray) (w : World), (∀ (j : Nat) x, xs[j]? = some x → w.cell? ⟨bk, o + j, none⟩ = some (.string x)) → bk < w.heap.size → xs.length ≤ 140737488355328 → xs.length ≤ c →
   (Lib.join (xs.map (·.data.toList)) sep.data.toList).length ≤ 140737488355328 → Calls P f #[.slice (some ⟨bk, o, none⟩) xs.length c, .string sep] w fun e w' => e = .returned (.string ⟨(Lib.join (xs.map (·.data.toList)) sep.data.toList).toArray⟩) ∧ Below w.heap.size w w') :
  cW P f (.prim cU) := by
 intro args h r h' hp K hK
 unfold cU at hp
 split at hp <;> try (cases hp; done)
 rename_i m es sep
 split at hp <;> try (cases hp; done)
 rename_i xs hxs
 split at hp <;> cases hp
 rename_i hlim
 refine iX hc rfl (fun w0 g n w vs hv hi => ?_) hK
 simp only [VL, VR] at hv
 obtain ⟨_, _, rfl, hsl, _, _, rfl, rfl, rfl⟩ := hv
 rcases hsl with ⟨rfl, _, a, rfl⟩ | ⟨B, o, cap, rfl, h2, _, _, _, hpe⟩
 ·simp [decS] at hxs; subst hxs
  refine (H0 a 0 sep w).mono ?_
  rintro e w' ⟨rfl, rfl⟩
  exact ⟨_, rfl, fun g => rfl, Below.refl _ _⟩
 ·obtain ⟨h3, h4⟩ := qS hi.prot hxs hpe
  rw [← h3] at h2 ⊢
  cases hx : xs with
  | nil =>
   refine (H0 _ cap sep w).mono ?_
   rintro e w' ⟨rfl, rfl⟩
   exact ⟨_, rfl, fun g => rfl, Below.refl _ _⟩
  | cons x ys =>
   rw [hx] at h2 h4 hlim
   have hB : B < w.heap.size := by
    have := h4 0 x rfl
    rcases Nat.lt_or_ge B w.heap.size with hl | hl
    ·exact hl
    ·simp [World.cell?, Array.getElem?_eq_none hl] at this
   refine (H B o cap (x :: ys) sep w h4 hB hlim.1 h2 hlim.2).mono ?_
   rintro e w' ⟨rfl, hb⟩
   exact ⟨_, rfl, fun g => rfl, hb⟩
end
end Go.Proofs.YtibchilpaaiecaaGreatDoor.M
