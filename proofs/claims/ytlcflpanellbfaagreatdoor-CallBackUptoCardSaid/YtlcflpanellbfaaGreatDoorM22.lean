/- Contracts of the library's functions, taken in as what calls come to. -/
import Derived.Test.YtlcflpanellbfaaGreatDoorM21
import Derived.Lib.ItoaNum
import Derived.Lib.AtoiAll
import Derived.Lib.Bytealg
import Derived.Lib.Join
import Derived.Lib.LaidTab
import Derived.Lib.AtoiErrMem
import Derived.WalkSmall
import Derived.Shelf.Strconv.Itoa3
set_option linter.all false
namespace Go.Proofs.YtlcflpanellbfaaGreatDoor.M
open Go Go.RowKit Go.Sort

section
variable {P : Program}
theorem callW_lib {f : FuncId} {args : List AV} {h : AH} {r : AV} (hc : Callable P f) (hcl : r.cl = true)
    (hcall : ∀ (w0 : World) (g : Gh) (n : Nat → Nat) (w : World) (vs : List Value), VL g args vs → Inv w0 g h n w → Calls P f vs.toArray w fun e w' => ∃ u, e = .returned u ∧ (∀ g, VR g r u) ∧ Below w.heap.size w w')
    {K : AV → AH → Prop} (hK : K r h) : CallW P f args h K := by
  refine ⟨hc, fun w0 g n w vs hv hcl' hi => ?_, r, h, hK⟩
  refine (hcall w0 g n w vs hv hi).mono ?_
  rintro e w' ⟨u, rfl, hvr, hb⟩
  exact ⟨g, r, u, h, rfl, hK, Gh.le.refl g, fun B hB => ⟨hb.block B (hi.n_lt hB), fun _ => rfl⟩, hvr g, OV_cl hcl, (hi.grow hb).le fun B => by rw [tk_cl hcl]; omega⟩

theorem below_grow (w : World) (k : Nat) (os : Array Obj) : Below w.heap.size w (grow (w.drewN k) os) :=
  (below_drewN (Below.refl _ w) k).trans ⟨rfl, rfl, rfl, by simp [grow], fun j hj => by
    have hj' : j < (w.drewN k).heap.size := hj
    show ((w.drewN k).heap ++ os)[j]? = (w.drewN k).heap[j]?
    exact Array.getElem?_append_left hj'⟩

def itoaP : List AV → AH → Option (AV × AH)
  | [.int .i64 n], h => if -9223372036854775808 ≤ n ∧ n ≤ 9223372036854775807 then some (.str ⟨(Lib.itoa n).toArray⟩, h) else none
  | _, _ => none
theorem itoa_ok {f : FuncId} (hc : Callable P f) (tab : ∀ w0 w : World, GW w0 → Below w0.heap.size w0 w → Lib.TabIs P w "internal/strconv.uint64pow10" .u64 Lib.pow10Tab)
    (H : ∀ n : Int, -9223372036854775808 ≤ n → n ≤ 9223372036854775807 → ∀ w : World, Lib.TabIs P w "internal/strconv.uint64pow10" .u64 Lib.pow10Tab → Calls P f #[.int .i64 n] w fun e w' => e = .returned (.string ⟨(Lib.itoa n).toArray⟩) ∧ ∃ k os, w' = grow (w.drewN k) os) :
    OkDef P f (.prim itoaP) := by
  intro args h r h' hp K hK
  unfold itoaP at hp
  split at hp <;> try (cases hp; done)
  rename_i n
  split at hp <;> cases hp
  rename_i hn
  refine callW_lib hc rfl (fun w0 g m w vs hv hi => ?_) hK
  simp only [VL, VR] at hv
  obtain ⟨_, _, rfl, rfl, rfl⟩ := hv
  refine (H n hn.1 hn.2 w (tab w0 w hi.gw hi.below)).mono ?_
  rintro e w' ⟨rfl, k, os, rfl⟩
  exact ⟨_, rfl, fun g => rfl, below_grow w k os⟩

/-- How strconv.Atoi ends; t: *strconv.NumError. -/
def atoiR (t : TypeId) (s : List UInt8) : AV :=
  match Lib.atoiAll s with
  | .ok v => .tup [.int .i64 v, .nili]
  | .range => .tup [.int .i64 (Lib.atoiSat s), .iface t .any]
  | _ => .tup [.int .i64 0, .iface t .any]
def atoiP (t : TypeId) : List AV → AH → Option (AV × AH)
  | [.str s], h => if Nat.ble s.size 281474976710656 then some (atoiR t s.data.toList, h) else none
  | _, _ => none
theorem atoi_ok {f : FuncId} {t eb : TypeId} (hc : Callable P f)
    (H1 : ∀ (s : ByteArray), s.size ≤ 9223372036854775806 → ∀ v, Lib.atoiAll s.data.toList = .ok v → ∀ w, Calls P f #[.string s] w fun e w' => e = .returned (.tuple #[.int .i64 v, .nilIface]) ∧ (w' = w ∨ ∃ x, w' = Lib.bytesWorld w eb x))
    (H2 : ∀ (s : ByteArray), s.size ≤ 281474976710656 → Lib.atoiAll s.data.toList = Lib.atoiAll [] → ∀ w0 w, GW w0 → Below w0.heap.size w0 w → Calls P f #[.string s] w fun e w' => ∃ N, e = .returned (.tuple #[.int .i64 0, .iface t (.pointer (some ⟨N, 0, none⟩))]) ∧ Below w.heap.size w w')
    (H3 : ∀ (s : ByteArray), s.size ≤ 281474976710656 → Lib.atoiAll s.data.toList = .range → ∀ w0 w, GW w0 → Below w0.heap.size w0 w → Calls P f #[.string s] w fun e w' => ∃ N, e = .returned (.tuple #[.int .i64 (Lib.atoiSat s.data.toList), .iface t (.pointer (some ⟨N, 0, none⟩))]) ∧ Below w.heap.size w w') :
    OkDef P f (.prim (atoiP t)) := by
  intro args h r h' hp K hK
  unfold atoiP at hp
  split at hp <;> try (cases hp; done)
  rename_i s
  split at hp <;> cases hp
  rename_i hn
  have hn' := Nat.le_of_ble_eq_true hn
  have hcl : (atoiR t s.data.toList).cl = true := by unfold atoiR; split <;> rfl
  refine callW_lib hc hcl (fun w0 g m w vs hv hi => ?_) hK
  simp only [VL, VR] at hv
  obtain ⟨_, _, rfl, rfl, rfl⟩ := hv
  unfold atoiR
  cases hr : Lib.atoiAll s.data.toList with
  | ok v =>
    refine (H1 s (by omega) v hr w).mono ?_
    rintro e w' ⟨rfl, hw⟩
    refine ⟨_, rfl, fun g => ⟨#[.int .i64 v, .nilIface], rfl, _, _, rfl, rfl, _, _, rfl, rfl, rfl⟩, ?_⟩
    rcases hw with rfl | ⟨x, rfl⟩
    · exact Below.refl _ _
    · exact Lib.bytesWorld_below w eb x
  | range =>
    refine (H3 s hn' hr w0 w hi.gw hi.below).mono ?_
    rintro e w' ⟨N, rfl, hb⟩
    exact ⟨_, rfl, fun g => ⟨#[.int .i64 _, .iface t (.pointer (some ⟨N, 0, none⟩))], rfl, _, _, rfl, rfl, _, _, rfl, ⟨_, rfl, trivial, rfl⟩, rfl⟩, hb⟩
  | _ =>
    refine (H2 s hn' hr w0 w hi.gw hi.below).mono ?_
    rintro e w' ⟨N, rfl, hb⟩
    exact ⟨_, rfl, fun g => ⟨#[.int .i64 0, .iface t (.pointer (some ⟨N, 0, none⟩))], rfl, _, _, rfl, rfl, _, _, rfl, ⟨_, rfl, trivial, rfl⟩, rfl⟩, hb⟩

def index1P : List AV → AH → Option (AV × AH)
  | [.str s, .str d], h => match d.data.toList with | [c] => some (.int .i64 (Lib.indexByte s.data.toList c), h) | _ => none
  | _, _ => none
theorem index1_ok {f : FuncId} (hc : Callable P f)
    (H : ∀ (s : ByteArray) (c : UInt8) (w : World), Calls P f #[.string s, .string ⟨#[c]⟩] w fun e w' => e = .returned (.int .i64 (Lib.indexByte s.data.toList c)) ∧ w' = w) : OkDef P f (.prim index1P) := by
  intro args h r h' hp K hK
  unfold index1P at hp
  split at hp <;> try (cases hp; done)
  rename_i s d
  split at hp <;> cases hp
  rename_i c hd
  refine callW_lib hc rfl (fun w0 g m w vs hv hi => ?_) hK
  simp only [VL, VR] at hv
  obtain ⟨_, _, rfl, rfl, _, _, rfl, rfl, rfl⟩ := hv
  have hd' : d = ⟨#[c]⟩ := by
    cases d; simp only at hd; congr; exact Array.ext' hd
  subst hd'
  refine (H s c w).mono ?_
  rintro e w' ⟨rfl, rfl⟩
  exact ⟨_, rfl, fun g => rfl, Below.refl _ _⟩

/-! ### strings.Join -/
def decS : List (List AV) → Option (List ByteArray)
  | [] => some []
  | [.str x] :: r => (decS r).map (x :: ·)
  | _ => none
def joinB (xs : List ByteArray) (sep : ByteArray) : ByteArray := ⟨(Lib.join (xs.map (·.data.toList)) sep.data.toList).toArray⟩
def joinP : List AV → AH → Option (AV × AH)
  | [.sl _ es, .str sep], h => match decS es with
    | some xs => if xs.length ≤ 140737488355328 ∧ (Lib.join (xs.map (·.data.toList)) sep.data.toList).length ≤ 140737488355328 then some (.str (joinB xs sep), h) else none
    | none => none
  | _, _ => none
theorem decS_cells {g : Gh} {w : World} (hp : ∀ B o v, g.prot B o = some v → w.cell? ⟨B, o, none⟩ = some v) : ∀ {es : List (List AV)} {xs : List ByteArray} {B o : Nat}, decS es = some xs → PE g es B o →
    xs.length = es.length ∧ ∀ (j : Nat) x, xs[j]? = some x → w.cell? ⟨B, o + j, none⟩ = some (.string x)
  | [], xs, B, o, h, _ => by simp [decS] at h; subst h; simp
  | e :: r, xs, B, o, h, hq => by
    match e, h with
    | [], h => simp [decS] at h
    | _ :: _ :: _, h => simp [decS] at h
    | [a], h =>
      cases a <;> simp only [decS, Option.map_eq_some_iff, reduceCtorEq] at h
      rename_i s
      obtain ⟨ys, hy, rfl⟩ := h
      simp only [PE, PR, List.length_cons, List.length_nil] at hq
      obtain ⟨⟨⟨u, hu, hv, _⟩, _⟩, hr⟩ := hq
      simp only [VR] at hv
      subst hv
      obtain ⟨h1, h2⟩ := decS_cells hp hy hr
      refine ⟨by simp [h1], fun j x hj => ?_⟩
      cases j with
      | zero => simp at hj; subst hj; exact hp _ _ _ hu
      | succ j =>
        have := h2 j x (by simpa using hj)
        rw [show o + (j + 1) = o + (0 + 1) + j by omega]; exact this
theorem join_ok {f : FuncId} (hc : Callable P f)
    (H0 : ∀ (a : Option Addr) (c : Nat) (sep : ByteArray) (w : World), Calls P f #[.slice a 0 c, .string sep] w fun e w' => e = .returned (.string ⟨#[]⟩) ∧ w' = w)
    (H : ∀ (bk o c : Nat) (xs : List ByteArray) (sep : ByteArray) (w : World), (∀ (j : Nat) x, xs[j]? = some x → w.cell? ⟨bk, o + j, none⟩ = some (.string x)) → bk < w.heap.size → xs.length ≤ 140737488355328 → xs.length ≤ c →
      (Lib.join (xs.map (·.data.toList)) sep.data.toList).length ≤ 140737488355328 → Calls P f #[.slice (some ⟨bk, o, none⟩) xs.length c, .string sep] w fun e w' => e = .returned (.string ⟨(Lib.join (xs.map (·.data.toList)) sep.data.toList).toArray⟩) ∧ Below w.heap.size w w') :
    OkDef P f (.prim joinP) := by
  intro args h r h' hp K hK
  unfold joinP at hp
  split at hp <;> try (cases hp; done)
  rename_i m es sep
  split at hp <;> try (cases hp; done)
  rename_i xs hxs
  split at hp <;> cases hp
  rename_i hlim
  refine callW_lib hc rfl (fun w0 g n w vs hv hi => ?_) hK
  simp only [VL, VR] at hv
  obtain ⟨_, _, rfl, hsl, _, _, rfl, rfl, rfl⟩ := hv
  rcases hsl with ⟨rfl, _, a, rfl⟩ | ⟨B, o, cap, rfl, h2, _, _, _, hpe⟩
  · simp [decS] at hxs; subst hxs
    refine (H0 a 0 sep w).mono ?_
    rintro e w' ⟨rfl, rfl⟩
    exact ⟨_, rfl, fun g => rfl, Below.refl _ _⟩
  · obtain ⟨h3, h4⟩ := decS_cells hi.prot hxs hpe
    rw [← h3] at h2 ⊢
    cases hx : xs with
    | nil =>
      refine (H0 _ cap sep w).mono ?_
      rintro e w' ⟨rfl, rfl⟩
      exact ⟨_, rfl, fun g => rfl, Below.refl _ _⟩
    | cons x ys =>
      rw [hx] at h2 h4 hlim
      have hB : B < w.heap.size := by
        have := h4 0 x rfl
        rcases Nat.lt_or_ge B w.heap.size with hl | hl
        · exact hl
        · simp [World.cell?, Array.getElem?_eq_none hl] at this
      refine (H B o cap (x :: ys) sep w h4 hB hlim.1 h2 hlim.2).mono ?_
      rintro e w' ⟨rfl, hb⟩
      exact ⟨_, rfl, fun g => rfl, hb⟩

/-! ### errors.Is, along a chain of faults (tf: the fault's type; te: the number's) -/
def FCh (tf : TypeId) (w : World) : Value → List Int → Prop
  | v, [] => v = .nilIface
  | v, c :: l => ∃ B o b, v = .iface tf (.pointer (some ⟨B, o, none⟩)) ∧ w.cell? ⟨B, o + 1, none⟩ = some (.int .i64 c) ∧ w.cell? ⟨B, o + 2, none⟩ = some b ∧ FCh tf w b l
/-- A chain's numbers. -/
def chA (tf : TypeId) : Nat → AV → Option (List Int)
  | 0, _ => none
  | k + 1, v => match v with
    | .nili => some []
    | .iface t (.ref [_, .int .i64 c, b]) => if t = tf then (chA tf k b).map (c :: ·) else none
    | _ => none
theorem chA_FCh {tf : TypeId} {g : Gh} {w : World} (hp : ∀ B o v, g.prot B o = some v → w.cell? ⟨B, o, none⟩ = some v) : ∀ {k : Nat} {v : AV} {l : List Int} {u : Value}, chA tf k v = some l → VR g v u → FCh tf w u l
  | 0, v, l, u, h, _ => by simp [chA] at h
  | k + 1, v, l, u, h, hv => by
    unfold chA at h
    split at h <;> try (cases h; done)
    · cases h; simpa only [VR, FCh] using hv
    · rename_i t p c b
      split at h <;> try (cases h; done)
      rename_i ht; subst ht
      simp only [Option.map_eq_some_iff] at h
      obtain ⟨l', hl, rfl⟩ := h
      simp only [VR, PR] at hv
      obtain ⟨_, rfl, ⟨B, o, rfl, _, ⟨u1, h1, rfl, _⟩, ⟨u2, h2, h3, _⟩, _⟩, _⟩ := hv
      exact ⟨B, o, u2, rfl, hp _ _ _ h1, hp _ _ _ h2, chA_FCh hp hl h3⟩
def errIsP (tf te : TypeId) : List AV → AH → Option (AV × AH)
  | [v, .iface t (.int .i64 e)], h => if t = te then (match chA tf 9 v with | some l => some (.bool (l.any (· == e)), h) | none => none) else none
  | _, _ => none
theorem errIs_ok {f : FuncId} {tf te : TypeId} (hc : Callable P f)
    (H : ∀ (l : List Int) (e : Int) (v : Value) (w : World), FCh tf w v l → Calls P f #[v, .iface te (.int .i64 e)] w fun x w' => x = .returned (.bool (l.any (· == e))) ∧ Below w.heap.size w w') :
    OkDef P f (.prim (errIsP tf te)) := by
  intro args h r h' hp K hK
  unfold errIsP at hp
  split at hp <;> try (cases hp; done)
  rename_i v t e
  split at hp <;> try (cases hp; done)
  rename_i ht; subst ht
  split at hp <;> cases hp
  rename_i l hl
  refine callW_lib hc rfl (fun w0 g n w vs hv hi => ?_) hK
  simp only [VL, VR] at hv
  obtain ⟨u, _, rfl, hu, _, _, rfl, ⟨_, rfl, rfl, _⟩, rfl⟩ := hv
  refine (H l e u w (chA_FCh hi.prot hl hu)).mono ?_
  rintro x w' ⟨rfl, hb⟩
  exact ⟨_, rfl, fun g => rfl, hb⟩
end
end Go.Proofs.YtlcflpanellbfaaGreatDoor.M
