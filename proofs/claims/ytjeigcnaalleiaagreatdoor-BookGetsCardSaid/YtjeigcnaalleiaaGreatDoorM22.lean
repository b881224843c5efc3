/- Contracts of the library's functions, taken in as what calls come to. -/
import Derived.Test.YtjeigcnaalleiaaGreatDoorM21
import Derived.Lib.ItoaNum
import Derived.Lib.AtoiAll
import Derived.Lib.Bytealg
import Derived.Lib.LaidTab
import Derived.Lib.AtoiErrMem
import Derived.WalkSmall
import Derived.Shelf.Strconv.Itoa3
set_option linter.all false
namespace Go.Proofs.YtjeigcnaalleiaaGreatDoor.M
open Go Go.RowKit Go.Sort

section
variable {P : Program}
theorem callW_lib {f : FuncId} {args : List AV} {h : AH} {r : AV} (hc : Callable P f) (hcl : r.cl = true)
    (hcall : ∀ (w0 : World) (g : Gh) (n : Nat → Nat) (w : World) (vs : List Value), VL g args vs → Inv w0 g h n w → Calls P f vs.toArray w fun e w' => ∃ u, e = .returned u ∧ (∀ g, VR g r u) ∧ Below w.heap.size w w')
    {K : AV → AH → Prop} (hK : K r h) : CallW P f args h K := by
  refine ⟨hc, fun w0 g n w vs hv hcl' hi => ?_, r, h, hK⟩
  refine (hcall w0 g n w vs hv hi).mono ?_
  rintro e w' ⟨u, rfl, hvr, hb⟩
  exact ⟨g, r, u, h, rfl, hK, Gh.le.refl g, fun B hB => ⟨hb.block B (hi.n_lt hB), fun _ => rfl⟩, hvr g, OV_cl hcl, (hi.grow hb).le fun B => by rw [tk_cl hcl]; omega⟩

theorem below_grow (w : World) (k : Nat) (os : Array Obj) : Below w.heap.size w (grow (w.drewN k) os) :=
  (below_drewN (Below.refl _ w) k).trans ⟨rfl, rfl, rfl, by simp [grow], fun j hj => by
    have hj' : j < (w.drewN k).heap.size := hj
    show ((w.drewN k).heap ++ os)[j]? = (w.drewN k).heap[j]?
    exact Array.getElem?_append_left hj'⟩

def itoaP : List AV → AH → Option (AV × AH)
  | [.int .i64 n], h => if -9223372036854775808 ≤ n ∧ n ≤ 9223372036854775807 then some (.str ⟨(Lib.itoa n).toArray⟩, h) else none
  | _, _ => none
theorem itoa_ok {f : FuncId} (hc : Callable P f) (tab : ∀ w0 w : World, GW w0 → Below w0.heap.size w0 w → Lib.TabIs P w "internal/strconv.uint64pow10" .u64 Lib.pow10Tab)
    (H : ∀ n : Int, -9223372036854775808 ≤ n → n ≤ 9223372036854775807 → ∀ w : World, Lib.TabIs P w "internal/strconv.uint64pow10" .u64 Lib.pow10Tab → Calls P f #[.int .i64 n] w fun e w' => e = .returned (.string ⟨(Lib.itoa n).toArray⟩) ∧ ∃ k os, w' = grow (w.drewN k) os) :
    OkDef P f (.prim itoaP) := by
  intro args h r h' hp K hK
  unfold itoaP at hp
  split at hp <;> try (cases hp; done)
  rename_i n
  split at hp <;> cases hp
  rename_i hn
  refine callW_lib hc rfl (fun w0 g m w vs hv hi => ?_) hK
  simp only [VL, VR] at hv
  obtain ⟨_, _, rfl, rfl, rfl⟩ := hv
  refine (H n hn.1 hn.2 w (tab w0 w hi.gw hi.below)).mono ?_
  rintro e w' ⟨rfl, k, os, rfl⟩
  exact ⟨_, rfl, fun g => rfl, below_grow w k os⟩

/-- How strconv.Atoi ends; t: *strconv.NumError. -/
def atoiR (t : TypeId) (s : List UInt8) : AV :=
  match Lib.atoiAll s with
  | .ok v => .tup [.int .i64 v, .nili]
  | .range => .tup [.int .i64 (Lib.atoiSat s), .iface t .any]
  | _ => .tup [.int .i64 0, .iface t .any]
def atoiP (t : TypeId) : List AV → AH → Option (AV × AH)
  | [.str s], h => if Nat.ble s.size 281474976710656 then some (atoiR t s.data.toList, h) else none
  | _, _ => none
theorem atoi_ok {f : FuncId} {t eb : TypeId} (hc : Callable P f)
    (H1 : ∀ (s : ByteArray), s.size ≤ 9223372036854775806 → ∀ v, Lib.atoiAll s.data.toList = .ok v → ∀ w, Calls P f #[.string s] w fun e w' => e = .returned (.tuple #[.int .i64 v, .nilIface]) ∧ (w' = w ∨ ∃ x, w' = Lib.bytesWorld w eb x))
    (H2 : ∀ (s : ByteArray), s.size ≤ 281474976710656 → Lib.atoiAll s.data.toList = Lib.atoiAll [] → ∀ w0 w, GW w0 → Below w0.heap.size w0 w → Calls P f #[.string s] w fun e w' => ∃ N, e = .returned (.tuple #[.int .i64 0, .iface t (.pointer (some ⟨N, 0, none⟩))]) ∧ Below w.heap.size w w')
    (H3 : ∀ (s : ByteArray), s.size ≤ 281474976710656 → Lib.atoiAll s.data.toList = .range → ∀ w0 w, GW w0 → Below w0.heap.size w0 w → Calls P f #[.string s] w fun e w' => ∃ N, e = .returned (.tuple #[.int .i64 (Lib.atoiSat s.data.toList), .iface t (.pointer (some ⟨N, 0, none⟩))]) ∧ Below w.heap.size w w') :
    OkDef P f (.prim (atoiP t)) := by
  intro args h r h' hp K hK
  unfold atoiP at hp
  split at hp <;> try (cases hp; done)
  rename_i s
  split at hp <;> cases hp
  rename_i hn
  have hn' := Nat.le_of_ble_eq_true hn
  have hcl : (atoiR t s.data.toList).cl = true := by unfold atoiR; split <;> rfl
  refine callW_lib hc hcl (fun w0 g m w vs hv hi => ?_) hK
  simp only [VL, VR] at hv
  obtain ⟨_, _, rfl, rfl, rfl⟩ := hv
  unfold atoiR
  cases hr : Lib.atoiAll s.data.toList with
  | ok v =>
    refine (H1 s (by omega) v hr w).mono ?_
    rintro e w' ⟨rfl, hw⟩
    refine ⟨_, rfl, fun g => ⟨#[.int .i64 v, .nilIface], rfl, _, _, rfl, rfl, _, _, rfl, rfl, rfl⟩, ?_⟩
    rcases hw with rfl | ⟨x, rfl⟩
    · exact Below.refl _ _
    · exact Lib.bytesWorld_below w eb x
  | range =>
    refine (H3 s hn' hr w0 w hi.gw hi.below).mono ?_
    rintro e w' ⟨N, rfl, hb⟩
    exact ⟨_, rfl, fun g => ⟨#[.int .i64 _, .iface t (.pointer (some ⟨N, 0, none⟩))], rfl, _, _, rfl, rfl, _, _, rfl, ⟨_, rfl, trivial, rfl⟩, rfl⟩, hb⟩
  | _ =>
    refine (H2 s hn' hr w0 w hi.gw hi.below).mono ?_
    rintro e w' ⟨N, rfl, hb⟩
    exact ⟨_, rfl, fun g => ⟨#[.int .i64 0, .iface t (.pointer (some ⟨N, 0, none⟩))], rfl, _, _, rfl, rfl, _, _, rfl, ⟨_, rfl, trivial, rfl⟩, rfl⟩, hb⟩

def index1P : List AV → AH → Option (AV × AH)
  | [.str s, .str d], h => match d.data.toList with | [c] => some (.int .i64 (Lib.indexByte s.data.toList c), h) | _ => none
  | _, _ => none
theorem index1_ok {f : FuncId} (hc : Callable P f)
    (H : ∀ (s : ByteArray) (c : UInt8) (w : World), Calls P f #[.string s, .string ⟨#[c]⟩] w fun e w' => e = .returned (.int .i64 (Lib.indexByte s.data.toList c)) ∧ w' = w) : OkDef P f (.prim index1P) := by
  intro args h r h' hp K hK
  unfold index1P at hp
  split at hp <;> try (cases hp; done)
  rename_i s d
  split at hp <;> cases hp
  rename_i c hd
  refine callW_lib hc rfl (fun w0 g m w vs hv hi => ?_) hK
  simp only [VL, VR] at hv
  obtain ⟨_, _, rfl, rfl, _, _, rfl, rfl, rfl⟩ := hv
  have hd' : d = ⟨#[c]⟩ := by
    cases d; simp only at hd; congr; exact Array.ext' hd
  subst hd'
  refine (H s c w).mono ?_
  rintro e w' ⟨rfl, rfl⟩
  exact ⟨_, rfl, fun g => rfl, Below.refl _ _⟩
end
end Go.Proofs.YtjeigcnaalleiaaGreatDoor.M
