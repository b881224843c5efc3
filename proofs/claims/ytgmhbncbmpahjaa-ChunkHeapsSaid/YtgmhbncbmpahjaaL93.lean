/- ChunkHeaps: a round of the script. -/
import Derived.Test.YtgmhbncbmpahjaaL92
import Derived.Test.YtgmhbncbmpahjaaL15
import Derived.Test.YtgmhbncbmpahjaaL69
set_option linter.all false
set_option maxRecDepth 100000
namespace Go.Proofs.Ytgmhbncbmpahjaa.L
open Go.Proofs.Ytgmhbncbmpahjaa.M Go.Proofs.Ytgmhbncbmpahjaa.F Go.Proofs

abbrev Op3 := Int × Int × List UInt8
def encO3 (o : Op3) : List AV := [.int .i64 o.1, .int .i64 o.2.1, .sl .sh (o.2.2.map encB)]
theorem szOK_O3 {p : List Op3} : szOK 3 (p.map encO3) = true := by cases p <;> rfl
theorem mrLL_O3 : ∀ {p : List Op3}, mrLL (p.map encO3) = 0
  | [] => rfl
  | a :: p => by
    have h1 := mrLL_O3 (p := p)
    have h2 : mrLL (a.2.2.map encB) = 0 := by
      generalize a.2.2 = l
      induction l with
      | nil => rfl
      | cons x l ih => simp only [List.map_cons, mrLL, encB, mrL, AV.mr, ih]; rfl
    simp only [List.map_cons, mrLL, encO3, mrL, AV.mr, h1, h2]; rfl
attribute [go_sem] szOK_O3 mrLL_O3
section
variable {l s d : Int} {n a b : Nat}
/-- What the boxes hold between two rounds. -/
structure Good (l s d : Int) (n a b : Nat) (H : AH) (es : Es) (hs : List Bool) (ps : List (List UInt8)) : Prop where
  h0 : H[0]? = some (.cells [.int .i64 l, .int .i64 s, .int .i64 d])
  hp : heapAt H 3 2 l s d es
  hr : RefAt H 7 a b l s d hs ps n
  rel : Rel n es hs ps
  sz : ∀ x ∈ ps, x.length ≤ 512
  len : 8 ≤ H.length
theorem good_app {H J : AH} {es : Es} {hs : List Bool} {ps : List (List UInt8)} (g : Good l s d n a b H es hs ps) : Good l s d n a b (H ++ J) es hs ps := by
  obtain ⟨h0, ⟨hp, hm⟩, ⟨hq, ha, hb, hl, pl⟩, rel, sz, len⟩ := g
  have old : ∀ {i : Nat} {x : Bx}, H[i]? = some x → (H ++ J)[i]? = some x := fun {i x} h => by
    rw [List.getElem?_append_left (List.getElem?_eq_some_iff.1 h).1]; exact h
  exact ⟨old h0, ⟨old hp, old hm⟩, ⟨old hq, old ha, old hb, hl, pl⟩, rel, sz, by rw [List.length_append]; omega⟩
theorem put_both {H : AH} {es : Es} {hs : List Bool} {ps : List (List UInt8)} (hab : (a = 5 ∧ b = 6) ∨ (a = 6 ∧ b = 5)) (hr : rightP l s d) (hn : (n : Int) = cnt l s d) (g : Good l s d n a b H es hs ps) (i : Int) (c : List UInt8) (hc : c.length ≤ 100000) :
    ∃ r H' H2 es' hs' ps', run T 7 [.box 3 0, .int .i64 i, .sl .sh (c.map encB)] H = some (.int .i64 r, H') ∧ run T 12 [.box 7 0, .int .i64 i, .sl .sh (c.map encB)] H' = some (.int .i64 r, H2) ∧
      Good l s d n a b H2 es' hs' ps' ∧ H2.length = H.length ∧ ∀ u, u ≠ 2 → u ≠ 5 → u ≠ 6 → H'[u]? = H[u]? ∧ H2[u]? = H[u]? := by
  have hp1 := put_run (i := i) (c := c) g.hp (by omega)
  have he := put_eq (i := i) (c := c) g.rel hn
  obtain ⟨h0, ⟨hp, hm⟩, ⟨hq, ha, hb, hl, pl⟩, rel, sz, len⟩ := g
  have hab' : a ≠ b := by omega
  have hqa : 7 ≠ a := by omega
  rw [he] at hp1
  by_cases hz : rputR l s d i c hs ps = 0
  · rw [hz, if_pos rfl] at hp1
    obtain ⟨rel', sz'⟩ := put_rel rel hr hn sz hz
    have hR' : RefAt (H.set 2 (.amap ((putE i c es).map enE))) 7 a b l s d hs ps n := by
      refine ⟨?_, ?_, ?_, hl, pl⟩
      · rw [List.getElem?_set_ne (by omega)]; exact hq
      · rw [List.getElem?_set_ne (by omega)]; exact ha
      · rw [List.getElem?_set_ne (by omega)]; exact hb
    have hp2 := rput_run (i := i) (c := c) hR' hn hab' hqa
    rw [hz, if_pos rfl] at hp2
    refine ⟨0, _, _, putE i c es, hs.set i.toNat true, ps.set i.toNat c, hp1, hp2, ⟨?_, ⟨?_, ?_⟩, ⟨?_, ?_, ?_, by rw [List.length_set]; exact hl, by rw [List.length_set]; exact pl⟩, rel', sz', by simp; omega⟩, by simp, fun u h2 h5 h6 => ⟨?_, ?_⟩⟩
    · rw [List.getElem?_set_ne (by omega), List.getElem?_set_ne (by omega), List.getElem?_set_ne (by omega)]; exact h0
    · rw [List.getElem?_set_ne (by omega), List.getElem?_set_ne (by omega), List.getElem?_set_ne (by omega)]; exact hp
    · rw [List.getElem?_set_ne (by omega), List.getElem?_set_ne (by omega), List.getElem?_set_self (by omega)]
    · rw [List.getElem?_set_ne (by omega), List.getElem?_set_ne (by omega), List.getElem?_set_ne (by omega)]; exact hq
    · rw [List.getElem?_set_ne (by omega), List.getElem?_set_self (by simp; omega)]
    · rw [List.getElem?_set_self (by simp; omega)]
    · rw [List.getElem?_set_ne (by omega)]
    · rw [List.getElem?_set_ne (by omega), List.getElem?_set_ne (by omega), List.getElem?_set_ne (by omega)]
  · rw [if_neg hz] at hp1
    have hp2 := rput_run (i := i) (c := c) (⟨hq, ha, hb, hl, pl⟩ : RefAt H 7 a b l s d hs ps n) hn hab' hqa
    rw [if_neg hz] at hp2
    exact ⟨_, _, _, es, hs, ps, hp1, hp2, ⟨h0, ⟨hp, hm⟩, ⟨hq, ha, hb, hl, pl⟩, rel, sz, len⟩, rfl, fun u _ _ _ => ⟨rfl, rfl⟩⟩
theorem cut_any {B : List UInt8} {s i : Int} (hB : B.length ≤ 2000) : ∃ (c : List UInt8) (ok : Bool), (∀ h, run T 11 [.sl .sh (B.map encB), .int .i64 s, .int .i64 i] h = some (.tup [ow (c.map encB), .bool ok], h)) ∧ c.length ≤ 2000 := by
  by_cases hp : headP B s ∧ 0 ≤ i ∧ i < cnt B.length s (ofB B)
  · exact ⟨_, true, fun h => cut_yes hp.1 hp.2, by rw [cutL, List.length_drop, List.length_take]; omega⟩
  · exact ⟨[], false, fun h => cut_no hp, by simp⟩
end
end Go.Proofs.Ytgmhbncbmpahjaa.L
