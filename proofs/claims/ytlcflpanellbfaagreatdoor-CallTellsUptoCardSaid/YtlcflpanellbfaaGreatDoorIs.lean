/- errors.Is along a chain of faults: its contract. The numbers are those of the seat of BookPlays, BookGets, ReplyTells, ReplyBack. -/
import Derived.Test.YtlcflpanellbfaaGreatDoorProg
import Derived.WalkKit
import Derived.LaidEql
import Derived.Stop.Asserts
import Derived.RowKitTokens
import Derived.RegionTactic
import Derived.ChangeAlike
import Derived.Test.YtlcflpanellbfaaGreatDoorM20
set_option linter.all false
namespace Go.Proofs.YtlcflpanellbfaaGreatDoor.F
open Go.Proofs.YtlcflpanellbfaaGreatDoor.M Go.RowKit Go.Extern.Stop Go.Stop Go.Extern Go.Proofs
theorem isTypeOf (v : Value) (w : World) : (Extern.ReflectliteType.typeOf #[.iface 40 v]).run Tryz.prog w = .ok (.iface 139 (.agg #[.pointer (some ⟨9, 40, none⟩)])) w := by kernel_rfl
theorem isComparable (w : World) : ((Extern.ReflectliteType.method fun t => (fun a => Value.bool a.comparable) <$> typeInfo t) #[.agg #[.pointer (some ⟨9, 40, none⟩)]]).run Tryz.prog w = .ok (.bool true) w := by kernel_rfl
theorem isMethodComparable (v : Value) (w : World) : (Go.method 356 139 v "Comparable").run Tryz.prog w = .ok (200, v) w := by kernel_rfl
theorem noIsE (v : Value) (xT : TypeId) (w : World) : (Instr.typeAssert (.iface 40 v) xT 150 true).run Tryz.prog w = .ok (.tuple #[.nilIface, .bool false]) w := run_typeAssert_lacksB Tryz.underlying150 (by kernel_rfl) (by kernel_rfl) v xT w
theorem noUnwrapE (v : Value) (xT : TypeId) (w : World) : (Instr.typeAssert (.iface 40 v) xT 146 true).run Tryz.prog w = .ok (.tuple #[.nilIface, .bool false]) w := run_typeAssert_lacksB Tryz.underlying146 (by kernel_rfl) (by kernel_rfl) v xT w
theorem noUnwrapsE (v : Value) (xT : TypeId) (w : World) : (Instr.typeAssert (.iface 40 v) xT 147 true).run Tryz.prog w = .ok (.tuple #[.nilIface, .bool false]) w := run_typeAssert_lacksB Tryz.underlying147 (by kernel_rfl) (by kernel_rfl) v xT w
theorem noIsF (v : Value) (xT : TypeId) (w : World) : (Instr.typeAssert (.iface 92 v) xT 150 true).run Tryz.prog w = .ok (.tuple #[.nilIface, .bool false]) w := run_typeAssert_lacksB Tryz.underlying150 (by kernel_rfl) (by kernel_rfl) v xT w
theorem noUnwrapF (v : Value) (xT : TypeId) (w : World) : (Instr.typeAssert (.iface 92 v) xT 146 true).run Tryz.prog w = .ok (.tuple #[.nilIface, .bool false]) w := run_typeAssert_lacksB Tryz.underlying146 (by kernel_rfl) (by kernel_rfl) v xT w
theorem hasUnwrapsF (v : Value) (xT : TypeId) (w : World) : (Instr.typeAssert (.iface 92 v) xT 147 true).run Tryz.prog w = .ok (.tuple #[.iface 92 v, .bool true]) w := run_typeAssert_hasB Tryz.underlying147 (by kernel_rfl) v xT w
theorem methodUnwrap (v : Value) (w : World) : (Go.method 356 92 v "Unwrap").run Tryz.prog w = .ok (194, v) w := by kernel_rfl
theorem eqlE (c e : Int) (w : World) : (binOp .eql 46 (.iface 40 (.int .i64 c)) (.iface 40 (.int .i64 e))).run Tryz.prog w = .ok (.bool (c == e)) w := by kernel_rfl
theorem eqlF (v : Value) (e : Int) (w : World) : (binOp .eql 46 (.iface 92 v) (.iface 40 (.int .i64 e))).run Tryz.prog w = .ok (.bool false) w := run_eql_iface_types (P := Tryz.prog) 92 40 v _ Tryz.underlying46 (by decide) w
set_option maxRecDepth 100000 in
theorem is_leaf (c e : Int) (w : World) : Calls Tryz.prog 90 #[.iface 40 (.int .i64 c), .iface 40 (.int .i64 e), .bool true] w fun x w' => x = .returned (.bool (c == e)) ∧ w' = w := by
  have nE := noIsE
  have uE := noUnwrapE
  have vE := noUnwrapsE
  have hq := eqlE c e
  cases hce : (c == e) with
  | true =>
    rw [hce] at hq
    go_enter Tryz.func90, Tryz.ntmps90
    go_wp2
    refine wp_loop_rounds 1 ?_
    rw [rounds_succ]
    go_wp2
    go_ret
    exact ⟨rfl, rfl⟩
  | false =>
    rw [hce] at hq
    go_enter Tryz.func90, Tryz.ntmps90
    go_wp2
    refine wp_loop_rounds 1 ?_
    rw [rounds_succ]
    go_wp2
    go_ret
    exact ⟨rfl, rfl⟩
theorem below_alloc (w : World) (o : Obj) : Below w.heap.size w (w.alloc o) := by
  refine ⟨rfl, rfl, rfl, ?_, fun j hj => ?_⟩
  · show w.heap.size ≤ (w.heap.push o).size
    simp
  · show (w.heap.push o)[j]? = w.heap[j]?
    have hj' : j < w.heap.size := hj
    rw [Array.getElem?_push, if_neg (by omega)]
theorem below_drew (B : Nat) (w : World) : Below B w w.drew := ⟨rfl, rfl, rfl, Nat.le_refl _, fun _ _ => rfl⟩
theorem cell_alloc (w : World) (cs : Array Value) (t : TypeId) (k : Nat) (v : Value) (h : cs[k]? = some v) : (w.alloc (.cells cs t)).cell? ⟨w.heap.size, k, none⟩ = some v := by
  have e : (w.alloc (.cells cs t)).heap[w.heap.size]? = some (.cells cs t (0, 0)) := by
    show (w.heap.push (.cells cs t))[w.heap.size]? = _
    rw [Array.getElem?_push, if_pos rfl]
  simp only [World.cell?, e]
  exact h
set_option maxRecDepth 100000 in
theorem unwrap1 (B o : Nat) (c : Int) (w : World) (h1 : w.cell? ⟨B, o + 1, none⟩ = some (.int .i64 c)) (h2 : w.cell? ⟨B, o + 2, none⟩ = some .nilIface) :
    Calls Tryz.prog 194 #[.pointer (some ⟨B, o, none⟩)] w fun x w' => ∃ C, x = .returned (.slice (some ⟨C, 0, none⟩) 1 1) ∧ Below w.heap.size w w' ∧ w'.cell? ⟨C, 0, none⟩ = some (.iface 40 (.int .i64 c)) := by
  go_enter Tryz.func194, Tryz.ntmps194
  go_wp2
  go_ret
  exact ⟨_, rfl, below_alloc _ _, cell_alloc w _ _ 0 _ rfl⟩
set_option maxRecDepth 100000 in
theorem unwrap2 (B o : Nat) (c : Int) (t : TypeId) (u : Value) (w : World) (h1 : w.cell? ⟨B, o + 1, none⟩ = some (.int .i64 c)) (h2 : w.cell? ⟨B, o + 2, none⟩ = some (.iface t u)) :
    Calls Tryz.prog 194 #[.pointer (some ⟨B, o, none⟩)] w fun x w' => ∃ C, x = .returned (.slice (some ⟨C, 0, none⟩) 2 2) ∧ Below w.heap.size w w' ∧ w'.cell? ⟨C, 0, none⟩ = some (.iface 40 (.int .i64 c)) ∧ w'.cell? ⟨C, 1, none⟩ = some (.iface t u) := by
  have h1' : w.drew.cell? ⟨B, o + 1, none⟩ = some (.int .i64 c) := h1
  have h2' : w.drew.cell? ⟨B, o + 2, none⟩ = some (.iface t u) := h2
  go_enter Tryz.func194, Tryz.ntmps194
  go_wp2
  go_region
  all_goals go_wp2
  all_goals go_ret
  all_goals exact ⟨_, rfl, (below_alloc w _).trans (below_drew _ _), cell_alloc w _ _ 0 _ rfl, cell_alloc w _ _ 1 _ rfl⟩
theorem cell_lt {w : World} {B o : Nat} {v : Value} (h : w.cell? ⟨B, o, none⟩ = some v) : B < w.heap.size := by
  rcases Nat.lt_or_ge B w.heap.size with hl | hl
  · exact hl
  · simp [World.cell?, Array.getElem?_eq_none hl] at h
theorem cell_below {w w' : World} {B o : Nat} {v : Value} (hb : Below w.heap.size w w') (h : w.cell? ⟨B, o, none⟩ = some v) : w'.cell? ⟨B, o, none⟩ = some v := by
  have := hb.block B (cell_lt h)
  simp only [World.cell?, this] at h ⊢
  exact h
theorem FCh.grow {w w' : World} (hb : Below w.heap.size w w') : ∀ {l : List Int} {v : Value}, FCh 92 w v l → FCh 92 w' v l
  | [], v, h => h
  | c :: l, v, ⟨B, o, b, h1, h2, h3, h4⟩ => ⟨B, o, b, h1, cell_below hb h2, cell_below hb h3, FCh.grow hb h4⟩
theorem leaf' {c e : Int} {r : Bool} (h : (c == e) = r) (w : World) : Calls Tryz.prog 90 #[.iface 40 (.int .i64 c), .iface 40 (.int .i64 e), .bool true] w fun x w' => x = .returned (.bool r) ∧ w' = w := by
  rw [← h]; exact is_leaf c e w
set_option maxRecDepth 100000 in
theorem is_one (B o : Nat) (c e : Int) (r : Bool) (hr : (c == e) = r) (w : World) (h1 : w.cell? ⟨B, o + 1, none⟩ = some (.int .i64 c)) (h2 : w.cell? ⟨B, o + 2, none⟩ = some .nilIface) :
    Calls Tryz.prog 90 #[.iface 92 (.pointer (some ⟨B, o, none⟩)), .iface 40 (.int .i64 e), .bool true] w fun x w' => x = .returned (.bool r) ∧ Below w.heap.size w w' := by
  have nF := noIsF
  have uF := noUnwrapF
  have hF := hasUnwrapsF
  have mU := methodUnwrap
  have hq := eqlF
  cases r with
  | true =>
    go_enter Tryz.func90, Tryz.ntmps90
    go_wp2
    refine wp_loop_rounds 1 ?_
    rw [rounds_succ]
    go_wp2_with (go_at_call 194; refine (unwrap1 B o c w h1 h2).mono ?_; rintro x w' ⟨C, rfl, hb, hc⟩)
    refine wp_loop_rounds 2 ?_
    rw [rounds_succ]
    go_wp2_with (go_at_call 90; refine (leaf' hr _).mono ?_; rintro x w'' ⟨rfl, rfl⟩)
    go_ret
    exact ⟨rfl, hb⟩
  | false =>
    go_enter Tryz.func90, Tryz.ntmps90
    go_wp2
    refine wp_loop_rounds 1 ?_
    rw [rounds_succ]
    go_wp2_with (go_at_call 194; refine (unwrap1 B o c w h1 h2).mono ?_; rintro x w' ⟨C, rfl, hb, hc⟩)
    refine wp_loop_rounds 2 ?_
    rw [rounds_succ]
    go_wp2_with (go_at_call 90; refine (leaf' hr _).mono ?_; rintro x w'' ⟨rfl, rfl⟩)
    rw [rounds_succ]
    go_wp2
    go_ret
    exact ⟨rfl, hb⟩
set_option maxRecDepth 100000 in
theorem is_chain : ∀ (l : List Int) (c e : Int) (v : Value) (w : World) (r : Bool), FCh 92 w v (c :: l) → ((c :: l).any (· == e)) = r →
    Calls Tryz.prog 90 #[v, .iface 40 (.int .i64 e), .bool true] w fun x w' => x = .returned (.bool r) ∧ Below w.heap.size w w' := by
  intro l
  induction l with
  | nil =>
    rintro c e v w r ⟨B, o, b, rfl, h1, h2, h3⟩ hr
    simp only [FCh] at h3
    subst h3
    exact is_one B o c e r (by simpa using hr) w h1 h2
  | cons c' l ih =>
    rintro c e v w r ⟨B, o, b, rfl, h1, h2, h3⟩ hr
    have h3' := h3
    obtain ⟨B', o', b', rfl, _, _, _⟩ := h3'
    have nF := noIsF
    have uF := noUnwrapF
    have hF := hasUnwrapsF
    have mU := methodUnwrap
    have hq := eqlF
    cases hce : (c == e) with
    | true =>
      rw [List.any_cons, hce, Bool.true_or] at hr
      subst hr
      go_enter Tryz.func90, Tryz.ntmps90
      go_wp2
      refine wp_loop_rounds 1 ?_
      rw [rounds_succ]
      go_wp2_with (go_at_call 194; refine (unwrap2 B o c _ _ w h1 h2).mono ?_; rintro x w' ⟨C, rfl, hb, hc, hd⟩)
      refine wp_loop_rounds 3 ?_
      rw [rounds_succ]
      go_wp2_with (go_at_call 90; refine (leaf' hce _).mono ?_; rintro x w'' ⟨rfl, rfl⟩)
      go_ret
      exact ⟨rfl, hb⟩
    | false =>
      rw [List.any_cons, hce, Bool.false_or] at hr
      cases r with
      | true =>
        go_enter Tryz.func90, Tryz.ntmps90
        go_wp2
        refine wp_loop_rounds 1 ?_
        rw [rounds_succ]
        go_wp2_with (go_at_call 194; refine (unwrap2 B o c _ _ w h1 h2).mono ?_; rintro x w' ⟨C, rfl, hb, hc, hd⟩)
        refine wp_loop_rounds 3 ?_
        rw [rounds_succ]
        go_wp2_with (go_at_call 90; refine (leaf' hce _).mono ?_; rintro x w'' ⟨rfl, rfl⟩)
        rw [rounds_succ]
        go_wp2_with (go_at_call 90; refine (ih c' e _ _ true (FCh.grow hb h3) hr).mono ?_; rintro x w3 ⟨rfl, hb2⟩)
        go_ret
        exact ⟨rfl, hb.trans (hb2.mono hb.size)⟩
      | false =>
        go_enter Tryz.func90, Tryz.ntmps90
        go_wp2
        refine wp_loop_rounds 1 ?_
        rw [rounds_succ]
        go_wp2_with (go_at_call 194; refine (unwrap2 B o c _ _ w h1 h2).mono ?_; rintro x w' ⟨C, rfl, hb, hc, hd⟩)
        refine wp_loop_rounds 3 ?_
        rw [rounds_succ]
        go_wp2_with (go_at_call 90; refine (leaf' hce _).mono ?_; rintro x w'' ⟨rfl, rfl⟩)
        rw [rounds_succ]
        go_wp2_with (go_at_call 90; refine (ih c' e _ _ false (FCh.grow hb h3) hr).mono ?_; rintro x w3 ⟨rfl, hb2⟩)
        rw [rounds_succ]
        go_wp2
        go_ret
        exact ⟨rfl, hb.trans (hb2.mono hb.size)⟩
theorem is_nil (e : Int) (w : World) : Calls Tryz.prog 60 #[.nilIface, .iface 40 (.int .i64 e)] w fun x w' => x = .returned (.bool false) ∧ w' = w := by
  have hn := run_eql_iface_nil_left (P := Tryz.prog) w 40 (.int .i64 e) Tryz.underlying46
  go_enter Tryz.func60, Tryz.ntmps60
  go_wp2
  go_ret
  exact ⟨rfl, rfl⟩
set_option maxRecDepth 100000 in
theorem errIs (c e : Int) (l : List Int) (v : Value) (w : World) (h : FCh 92 w v (c :: l)) :
    Calls Tryz.prog 60 #[v, .iface 40 (.int .i64 e)] w fun x w' => x = .returned (.bool ((c :: l).any (· == e))) ∧ Below w.heap.size w w' := by
  have h' := h
  obtain ⟨B, o, b, rfl, _, _, _⟩ := h'
  have h93 := @run_callFunc_extern Tryz.prog 89 _ Extern.ReflectliteType.typeOf Tryz.func89 (by kernel_rfl) (by kernel_rfl) (by kernel_rfl) (by kernel_rfl)
  have h178 := @run_callFunc_extern Tryz.prog 200 _ (Extern.ReflectliteType.method fun t => do Extern.Rtype.noPackHeld "Comparable" t; pure (.bool (← typeInfo t).comparable)) Tryz.func200 (by kernel_rfl) (by kernel_rfl) (by kernel_rfl) (by kernel_rfl)
  have tT := isTypeOf
  have cT : ∀ w, ((Extern.ReflectliteType.method fun t => do Extern.Rtype.noPackHeld "Comparable" t; (fun a => Value.bool a.comparable) <$> typeInfo t) #[.agg #[.pointer (some ⟨9, 40, none⟩)]]).run Tryz.prog w = .ok (.bool true) w := fun w => by kernel_rfl
  have mR := isMethodComparable
  go_enter Tryz.func60, Tryz.ntmps60
  go_wp2_with (go_at_call 90; refine (is_chain l c e _ _ _ h rfl).mono ?_; rintro x w' ⟨rfl, hb⟩)
  go_ret
  exact ⟨rfl, hb⟩
theorem errIs_fch (l : List Int) (e : Int) (v : Value) (w : World) (h : FCh 92 w v l) :
    Calls Tryz.prog 60 #[v, .iface 40 (.int .i64 e)] w fun x w' => x = .returned (.bool (l.any (· == e))) ∧ Below w.heap.size w w' := by
  cases l with
  | nil =>
    simp only [FCh] at h; subst h
    refine (is_nil e w).mono ?_
    rintro x w' ⟨rfl, rfl⟩
    exact ⟨rfl, Below.refl _ _⟩
  | cons c l => exact errIs c e l v w h
end Go.Proofs.YtlcflpanellbfaaGreatDoor.F
