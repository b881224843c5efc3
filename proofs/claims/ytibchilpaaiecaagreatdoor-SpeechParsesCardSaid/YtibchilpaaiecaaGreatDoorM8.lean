/- Slices of slices and strings, conversions, literals, and the small operations. -/
import Derived.Test.YtibchilpaaiecaaGreatDoorM6
import Derived.Laws.BytesArg
import Derived.Lib.ConvBytes
set_option linter.unusedVariables false
set_option linter.unusedSimpArgs false
namespace Go.Proofs.YtibchilpaaiecaaGreatDoor.M
open Go.RowKit
section
variable {P : Program} {w0 w : World} {g : Gh} {h : AH} {n : Nat → Nat} {σ : List AV} {a : Act}
def bndA (σ : List AV) : Option Opd → Option (Option Int)
 | none => some none
 | some y => match ag σ y with | .int _ i => some (some i) | _ => none
def vf (S : Nat) (lo hi mx : Option Int) (K : AV → Prop) : AV → Prop
 | .str s => mx = none ∧ 0 ≤ lo.getD 0 ∧ lo.getD 0 ≤ hi.getD s.size ∧ hi.getD s.size ≤ s.size ∧ K (.str (s.extract (lo.getD 0).toNat (hi.getD s.size).toNat))
 | .sl m es => 0 ≤ lo.getD 0 ∧ lo.getD 0 ≤ hi.getD es.length ∧ hi.getD es.length ≤ es.length ∧ (∀ e ∈ es, e.length = S) ∧
   match mx with
   | none => K (.sl (if m = .ex ∧ hi.getD es.length = es.length then .ex else .sh) ((es.take (hi.getD es.length).toNat).drop (lo.getD 0).toNat))
   | some M => hi.isSome = true ∧ hi.getD es.length ≤ M ∧ M ≤ es.length ∧ K (.sl (if M = hi.getD es.length then .ex else .sh) ((es.take (hi.getD es.length).toNat).drop (lo.getD 0).toNat))
 | _ => False
theorem eO {isS : Bool} {len cap : Nat} {lo hi : Option Value} {l h : Option Int} (hl : match lo with | none => l = none | some v => ∃ k i, v = .int k i ∧ l = some i)
  (hh : match hi with | none => h = none | some v => ∃ k i, v = .int k i ∧ h = some i) (h0 : 0 ≤ l.getD 0) (h1 : l.getD 0 ≤ h.getD len) (h2 : h.getD len ≤ cap) :
  (Instr.sliceBounds isS len cap lo hi none).run P w = .ok ((l.getD 0).toNat, (h.getD len).toNat, cap) w := by
 cases lo with
 | none =>
  subst hl
  cases hi with
  | none => subst hh; simp [Instr.sliceBounds]
  | some v =>
   obtain ⟨k, i, rfl, rfl⟩ := hh
   simp only [Option.getD_some, Option.getD_none] at *
   simp [Instr.sliceBounds, run_sliceBound w k i cap _ (by omega) h2]
 | some v =>
  obtain ⟨k, i, rfl, rfl⟩ := hl
  cases hi with
  | none =>
   subst hh
   simp only [Option.getD_some, Option.getD_none] at *
   simp [Instr.sliceBounds, run_sliceBound w k i len _ h0 h1]
  | some v =>
   obtain ⟨k', j, rfl, rfl⟩ := hh
   simp only [Option.getD_some] at *
   have e : (j.toNat : Int) = j := Int.toNat_of_nonneg (by omega)
   simp [Instr.sliceBounds, run_sliceBound w k' j cap _ (by omega) h2, run_sliceBound w k i j.toNat _ h0 (by omega)]
theorem lb {isS : Bool} {len cap : Nat} {lo : Option Value} {hv mv : Value} {l : Option Int} {k k' : IntKind} {j M : Int} (hl : match lo with | none => l = none | some v => ∃ k i, v = .int k i ∧ l = some i)
  (hh : hv = .int k j) (hm : mv = .int k' M) (h0 : 0 ≤ l.getD 0) (h1 : l.getD 0 ≤ j) (h2 : j ≤ M) (h3 : M ≤ cap) :
  (Instr.sliceBounds isS len cap lo (some hv) (some mv)).run P w = .ok ((l.getD 0).toNat, j.toNat, M.toNat) w := by
 subst hh hm
 have e : (j.toNat : Int) = j := Int.toNat_of_nonneg (by omega)
 have e' : (M.toNat : Int) = M := Int.toNat_of_nonneg (by omega)
 cases lo with
 | none =>
  subst hl
  simp only [Option.getD_none] at *
  simp [Instr.sliceBounds, run_sliceBound w k' M cap _ (by omega) h3, run_sliceBound w k j M.toNat _ (by omega) (by omega)]
 | some v =>
  obtain ⟨k2, i, rfl, rfl⟩ := hl
  simp only [Option.getD_some] at *
  simp [Instr.sliceBounds, run_sliceBound w k' M cap _ (by omega) h3, run_sliceBound w k j M.toNat _ (by omega) (by omega), run_sliceBound w k2 i j.toNat _ h0 (by omega)]
def BndR (lo : Option Value) (l : Option Int) : Prop := match lo with | none => l = none | some v => ∃ k i, v = .int k i ∧ l = some i
theorem zg {K : AV → Prop} {t : TypeId} {s : ByteArray} {lo hi : Option Value} {l h : Option Int} {S : Nat} (ht : P.underlying t = some .string) (hl : BndR lo l) (hh : BndR hi h)
  (hk : vf S l h none K (.str s)) : ∃ r z, (Instr.sliceAt t (.string s) lo hi none).run P w = .ok z w ∧ VR g r z ∧ r.cl = true ∧ K r := by
 obtain ⟨_, h0, h1, h2, hK⟩ := hk
 refine tn hK ?_
 have hb := eO (P := P) (w := w) (isS := false) (len := s.size) (cap := s.size) hl hh h0 h1 h2
 simp [Instr.sliceAt, run_underlying ht, Instr.slice, hb]
theorem vg {K : AV → Prop} {t e : TypeId} {x : AV} {u : Value} {lo hi mx : Option Value} {l h M : Option Int} {S : Nat} (ht : P.underlying t = some (.slice e)) (he : (P.info? e).map (·.size) = some S)
  (hl : BndR lo l) (hh : BndR hi h) (hm : BndR mx M) (hx : VR g x u) (hk : vf S l h M K x) (hsl : ∃ m es, x = .sl m es) :
  ∃ r z, (Instr.sliceAt t u lo hi mx).run P w = .ok z w ∧ VR g r z ∧ r.cl = true ∧ K r := by
 obtain ⟨m, es, rfl⟩ := hsl
 obtain ⟨h0, h1, h2, hS, hK⟩ := hk
 have hst : ∀ (u : Value) (lo hi mx : Option Value), (Instr.sliceAt t u lo hi mx).run P w = (Instr.slice t u lo hi mx).run P w := by
  intro u lo hi mx; simp [Instr.sliceAt, run_underlying ht]
 -- the value's form: a base, a capacity
 obtain ⟨base, cap, rfl, hcap, hex, hbase⟩ : ∃ base cap, u = .slice base es.length cap ∧ es.length ≤ cap ∧ (m = .ex → cap = es.length) ∧ (es = [] ∧ cap = 0 ∨ ∃ B o, base = some ⟨B, o, none⟩ ∧ PE g es B o) := by
  simp only [VR] at hx
  rcases hx with ⟨rfl, _, z0, rfl⟩ | ⟨B, o, cap, rfl, q2, q3, q4, q5, hp⟩
  ·exact ⟨z0, 0, rfl, by simp, fun _ => rfl, .inl ⟨rfl, rfl⟩⟩
  ·exact ⟨_, cap, rfl, q2, q3, .inr ⟨B, o, rfl, hp⟩⟩
 generalize hL : (l.getD 0).toNat = L at *
 generalize hH : (h.getD es.length).toNat = H at *
 have hLH : L ≤ H := by omega
 have hHl : H ≤ es.length := by omega
 have hlen : ((es.take H).drop L).length = H - L := by simp; omega
 have huni : Uni ((es.take H).drop L) := by
  have hm : ∀ e ∈ (es.take H).drop L, e.length = S := fun e he => hS e (List.mem_of_mem_take (List.mem_of_mem_drop he))
  have := (qC (es := []) (S := S) (by simp) hm).1
  simpa using this
 -- the new slice, whatever its capacity
 have key : ∀ (md : Md) (C : Nat), H - L ≤ C - L → md ≠ .own → (md = .ex → C = H) → L ≤ C → (es.length ≤ cap → C ≤ cap) →
   VR g (.sl md ((es.take H).drop L)) (.slice (if C = L then base else base.map (·.add (L * S))) (H - L) (C - L)) := by
  intro md C hC hmd hmx hLC hCc
  rcases hbase with ⟨rfl, rfl⟩ | ⟨B, o, rfl, hp⟩
  ·simp only [VR]
   simp at hHl
   subst hHl
   have : L = 0 := by omega
   subst this
   have : C = 0 := by have := hCc (by simp); omega
   subst this
   exact .inl ⟨by simp, hmd, base, by simp⟩
  ·simp only [VR]
   have hpt : PE g (es.take H) B o := PE.take hp H
   have hun : ∀ x ∈ es.take H, x.length = S := fun x hx => hS x (List.mem_of_mem_take hx)
   rcases PE.drop hpt hun L with hd | hd
   ·by_cases hc : C = L
    ·have : H = L := by omega
     subst this
     refine .inr ⟨B, o, C - H, by simp [hc], by omega, fun hx => by have := hmx hx; omega, fun hx => absurd hx hmd, huni, ?_⟩
     rw [List.eq_nil_of_length_eq_zero (by rw [hlen]; omega : ((es.take H).drop H).length = 0)]
     simp [PE]
    ·refine .inr ⟨B, o + L * S, C - L, by simp [hc, addr_add, hlen], by omega, fun hx => by have := hmx hx; omega, fun hx => absurd hx hmd, huni, hd⟩
   ·have hz : H - L = 0 := by rw [← hlen, hd]; rfl
    rw [hd]
    by_cases hc : C = L
    ·exact .inr ⟨B, o, C - L, by simp [hc, hz], by simp, fun hx => by have := hmx hx; simp; omega, fun hx => absurd hx hmd, fun e he => by simp at he, by simp [PE]⟩
    ·exact .inr ⟨B, o + L * S, C - L, by simp [hc, addr_add, hz], by simp, fun hx => by have := hmx hx; simp; omega, fun hx => absurd hx hmd, fun e he => by simp at he, by simp [PE]⟩
 cases mx with
 | none =>
  simp only [BndR] at hm
  subst hm
  simp only at hK
  have hb := eO (P := P) (w := w) (isS := true) (len := es.length) (cap := cap) hl hh (by omega) (by omega) (by omega)
  rw [hL, hH] at hb
  refine lT (z := .slice (if cap = L then base else base.map (·.add (L * S))) (H - L) (cap - L)) hK (key _ cap (by omega) (by split <;> simp) (fun hc => ?_) (by omega) (fun _ => Nat.le_refl _)) ?_ ?_
  ·split at hc
   ·rename_i hcc; have := hex hcc.1; omega
   ·cases hc
  ·simp only [AV.cl]; split <;> rfl
  ·rw [hst]
   simp [Instr.slice, run_underlying ht, hb, dK he]
 | some mv =>
  obtain ⟨k', M', rfl, rfl⟩ := hm
  simp only at hK
  obtain ⟨hhs, hM1, hM2, hK⟩ := hK
  cases hi with
  | none => simp only [BndR] at hh; subst hh; simp at hhs
  | some hv =>
   obtain ⟨k, j, rfl, rfl⟩ := hh
   simp only [Option.getD_some] at *
   have hb := lb (P := P) (w := w) (isS := true) (len := es.length) (cap := cap) hl (rfl : (Value.int k j) = _) (rfl : (Value.int k' M') = _) (by omega) (by omega) hM1 (by omega)
   rw [hL, hH] at hb
   refine lT (z := .slice (if M'.toNat = L then base else base.map (·.add (L * S))) (H - L) (M'.toNat - L)) hK (key _ M'.toNat (by omega) (by split <;> simp) (fun hc => ?_) (by omega) (fun _ => by omega)) ?_ ?_
   ·split at hc
    ·rename_i hcc; omega
    ·cases hc
   ·simp only [AV.cl]; split <;> rfl
   ·rw [hst]
    simp [Instr.slice, run_underlying ht, hb, dK he]
theorem CB {K : AV → Prop} {t e : TypeId} {id off len : Nat} {cap : Option Nat} {u : Value} {lo hi : Option Value} {l h : Option Int} {S : Nat} (ht : P.underlying t = some (.slice e)) (he : (P.info? e).map (·.size) = some S)
  (hl : BndR lo l) (hh : BndR hi h) (hx : VR g (.bs id off len cap) u) (hc : 0 ≤ l.getD 0 ∧ l.getD 0 ≤ h.getD len ∧ h.getD len ≤ len)
  (hk : K (.bs id (off + (l.getD 0).toNat * S) ((h.getD len).toNat - (l.getD 0).toNat) (cap.map fun c => c - (l.getD 0).toNat))) : ∃ r z, (Instr.sliceAt t u lo hi none).run P w = .ok z w ∧ VR g r z ∧ r.cl = true ∧ K r := by
 obtain ⟨h0, h1, h2⟩ := hc
 simp only [VR] at hx
 obtain ⟨B, C, o, hb, rfl, hlen, hcap, hoff⟩ := hx
 have hrb := eO (P := P) (w := w) (isS := true) (len := len) (cap := C) hl hh (by omega) (by omega) (by omega)
 generalize hL : (l.getD 0).toNat = L at *
 generalize hH : (h.getD len).toNat = H at *
 refine lT (z := .slice (if C = L then some ⟨B, o, none⟩ else (some (⟨B, o, none⟩ : Addr)).map (·.add (L * S))) (H - L) (C - L)) hk ?_ rfl ?_
 ·simp only [VR]
  by_cases hC : C = L
  ·exact ⟨B, C - L, o, hb, by simp [hC], by omega, fun c hc => by
    cases cap with
    | none => cases hc
    | some c0 => simp only [Option.map_some, Option.some.injEq] at hc; have := hcap c0 rfl; omega, fun hz => by omega⟩
  ·exact ⟨B, C - L, o + L * S, hb, by simp [hC, addr_add], by omega, fun c hc => by
    cases cap with
    | none => cases hc
    | some c0 => simp only [Option.map_some, Option.some.injEq] at hc; have := hcap c0 rfl; omega, fun hz => by rw [hoff (by omega)]⟩
 ·have hst : (Instr.sliceAt t (.slice (some ⟨B, o, none⟩) len C) lo hi none).run P w = (Instr.slice t (.slice (some ⟨B, o, none⟩) len C) lo hi none).run P w := by
   simp [Instr.sliceAt, run_underlying ht]
  rw [hst]
  simp [Instr.slice, run_underlying ht, hrb, dK he]
end
end Go.Proofs.YtibchilpaaiecaaGreatDoor.M
/- Conversions, literals, interfaces, functions, tuples. -/
set_option linter.unusedVariables false
set_option linter.unusedSimpArgs false
namespace Go.Proofs.YtibchilpaaiecaaGreatDoor.M
open Go.RowKit
section
variable {P : Program} {w0 w : World} {ds : List Deferred} {g : Gh} {h : AH} {n : Nat → Nat} {σ : List AV} {a : Act}
theorem Inv.newRowW (hi : Inv w0 g h n w) {w' : World} {vs : List Value} (hos : w'.os = w.os) (htp : w'.tape = w.tape) (hout : w'.output = w.output) (hsz : w.heap.size ≤ w'.heap.size)
  (hold : ∀ j, j < w.heap.size → w'.heap[j]? = w.heap[j]?) (hnew : ∀ j v, vs[j]? = some v → w'.cell? ⟨w.heap.size, j, none⟩ = some v) :
  Inv w0 (g.addProt w.heap.size 0 vs) h n w' ∧ g.le (g.addProt w.heap.size 0 vs) ∧ Keep n g w (g.addProt w.heap.size 0 vs) w' ∧
   (∀ (cs : List AV) (us : List Value), VL g cs us → OVL w0 g w cs us → OVL w0 (g.addProt w.heap.size 0 vs) w' cs us) := by
 have hle : g.le (g.addProt w.heap.size 0 vs) := Gh.le_addProt fun p _ => hi.prot_new (Nat.le_refl _) p
 have hp : ∀ B p, B ≠ w.heap.size → (g.addProt w.heap.size 0 vs).prot B p = g.prot B p := fun B p hB => Gh.addProt_other (.inl hB)
 obtain ⟨bv, e1, e2, e3⟩ := hi.rest
 refine ⟨⟨hi.gw, hi.gl.mono hle.prot, hi.below.trans ⟨hos, htp, hout, hsz, fun k hk => hold k (Nat.lt_of_lt_of_le hk hi.below.size)⟩, fun B p v hv => ?_, fun i B hB => ?_, hi.inj, fun B hB => ?_, bv, e1, fun i b xs hb hx => ?_, e3⟩, hle, fun B hB => ?_, fun cs us hv ho => ?_⟩
 ·by_cases hB : B = w.heap.size
  ·subst hB
   simp only [Gh.addProt] at hv
   split at hv
   ·exact hnew p v (by simpa using hv)
   ·rw [hi.prot_new (Nat.le_refl _)] at hv; cases hv
  ·rw [hp B p hB] at hv
   have hlt := hi.block_lt hv
   rw [cell?_of_heap (hold B hlt)]; exact hi.prot B p v hv
 ·have := hi.bxd _ _ hB; omega
 ·obtain ⟨t1, t2⟩ := hi.tokp B hB; exact ⟨by omega, t2⟩
 ·have hbx := e2 i b xs hb hx
  refine hbx.keep hle (fun _ B hB => ?_) (fun B hB => ?_)
  ·have hlt := (hi.bxd _ _ hB).2
   exact ⟨hold B hlt, fun hn p => by rw [hp B p (by omega)]; exact hn p⟩
  ·obtain ⟨q, u, hq⟩ := hbx.tk_prot hB
   have hlt := hi.block_lt hq
   exact ⟨hold B hlt, fun p => hp B p (by omega)⟩
 ·have hlt := hi.n_lt hB
  exact ⟨hold B hlt, fun p => hp B p (by omega)⟩
 ·refine OVL.keep ho fun B hB => ?_
  have hlt := hi.tkL_lt hv hB
  exact ⟨hold B hlt, fun p => hp B p (by omega)⟩
theorem j7 {o : Oper} {K : List AV → AH → Prop} {Q : Exit → Act → World → Prop} {w' : World} {vs : List Value} {u : Value} {v : AV} (hs : SR ds w0 g n σ h a w)
  (hr : (execOp a.eval o).run P w = .ok (.value u) w') (hos : w'.os = w.os) (htp : w'.tape = w.tape) (hout : w'.output = w.output) (hsz : w.heap.size ≤ w'.heap.size)
  (hold : ∀ j, j < w.heap.size → w'.heap[j]? = w.heap[j]?) (hnew : ∀ j v, vs[j]? = some v → w'.cell? ⟨w.heap.size, j, none⟩ = some v)
  (hv : VR (g.addProt w.heap.size 0 vs) v u) (hc : v.cl = true) (hK : K (putA σ o.dst v) h) : o.wp P a w (bI ds w0 g n w K) Q := by
 obtain ⟨i1, i2, i3, i4⟩ := hs.inv.newRowW hos htp hout hsz hold hnew
 exact fx hr i2 (i3.le fun B => by omega) (SR.put (⟨VL.mono i2 _ _ hs.vl, i4 _ _ hs.vl hs.ov, i1, hs.df⟩ : SR ds w0 _ n σ h a w') o.dst hv hc) hK
def zh (k : IntKind) (K : AV → Prop) : AV → Prop | .int _ i => K (.int k (k.wrap i)) | _ => False
def zi (K : AV → Prop) : AV → Prop | .str b => K (.str b) | _ => False
theorem ry {K : AV → Prop} {s d : TypeId} {k : IntKind} {x : AV} {u : Value} {ds : TypeDesc} (hs : P.underlying s = some ds) (hd : P.underlying d = some (.int k)) (hx : VR g x u)
  (hk : zh k K x) : ∃ r z, (convert s d u).run P w = .ok z w ∧ VR g r z ∧ r.cl = true ∧ K r := by
 cases x <;> simp only [zh] at hk <;> try (exact hk.elim)
 simp only [VR] at hx; subst hx
 refine hZ hk ?_
 simp [convert, run_underlying hs, run_underlying hd, Conv.intToInt]
theorem rz {K : AV → Prop} {s d : TypeId} {x : AV} {u : Value} {ds : TypeDesc} (hs : P.underlying s = some ds) (hd : P.underlying d = some .string) (hx : VR g x u)
  (hk : zi K x) : ∃ r z, (convert s d u).run P w = .ok z w ∧ VR g r z ∧ r.cl = true ∧ K r := by
 cases x <;> simp only [zi] at hk <;> try (exact hk.elim)
 simp only [VR] at hx; subst hx
 refine tn hk ?_
 simp [convert, run_underlying hs, run_underlying hd]
def vh (K : AV → Prop) : AV → Prop
 | .sl _ es => ∃ bs : List UInt8, es = bs.map encB ∧ K (.str ⟨bs.toArray⟩)
 | _ => False
theorem p7 {K : AV → Prop} {s d e : TypeId} {x : AV} {u : Value} (hi : Inv w0 g h n w) (hs : P.underlying s = some (.slice e)) (he : P.underlying e = some (.int .u8)) (hd : P.underlying d = some .string) (hx : VR g x u)
  (hk : vh K x) : ∃ r z, (convert s d u).run P w = .ok z w ∧ VR g r z ∧ r.cl = true ∧ K r := by
 cases x <;> simp only [vh] at hk <;> try (exact hk.elim)
 rename_i m es
 obtain ⟨bs, rfl, hK⟩ := hk
 simp only [VR] at hx
 rcases hx with ⟨h1, _, z0, rfl⟩ | ⟨B, o, cap, rfl, q2, q3, q4, q5, hp⟩
 ·have : bs = [] := by simpa using h1
  subst this
  refine tn hK ?_
  cases z0 with
  | none => exact run_convert_bytes_nil w s e hs he 0 0 d hd
  | some z1 =>
   rw [run_convert_bytes_string w s d e _ 0 0 hs he hd]
   simp [Conv.bytesToString, loadCells, loadCellsFrom]
   rfl
 ·have hcell : ∀ i, i < bs.length → w.cell? ⟨B, o + i, none⟩ = some (.int .u8 ((bs.map fun b => (b.toNat : Int)).getD i 0)) := by
   intro i hil
   have hg : (bs.map encB)[i]? = some (encB bs[i]) := by simp [hil]
   have := PE.at_ hp hg (s := 1) (fun x hx => by obtain ⟨b, _, rfl⟩ := List.mem_map.1 hx; rfl)
   obtain ⟨u, hu, hv, _⟩ := PR.at_ this (i := 0) (c := .int .u8 (bs[i].toNat : Int)) rfl
   simp only [VR] at hv
   have hc := hi.prot _ _ _ hu
   rw [hv] at hc
   simp only [Nat.mul_one, Nat.add_zero] at hc
   rw [hc]
   simp [List.getD, hil]
  have hrun := run_convert_bytes_arg w s e hs he B o (bs.map encB).length cap (bs.map fun b => (b.toNat : Int)) (by simp) (fun i hi' => hcell i (by simpa using hi')) d hd
  refine tn hK ?_
  rw [hrun]
  congr 2
  simp only [strOfNums, List.map_map]
  congr 1
  apply congrArg List.toArray
  rw [show ((fun n : Int => UInt8.ofNat n.toNat) ∘ fun b : UInt8 => (b.toNat : Int)) = id from by funext b; simp]
  simp
theorem zj {g' : Gh} {B : Nat} : ∀ (l : List UInt8) (o : Nat), (∀ j b, l[j]? = some b → g'.prot B (o + j) = some (.int .u8 b.toNat)) → PE g' (l.map encB) B o
 | [], o, h => by simp [PE]
 | b :: l, o, h => by
  refine ⟨⟨⟨_, by simpa using h 0 b rfl, by simp [VR], rfl, rfl⟩, by simp [PR]⟩, zj l _ fun j c hc => ?_⟩
  have := h (j + 1) c (by simpa using hc)
  simpa [encB, Nat.add_assoc, Nat.add_comm 1] using this
theorem CD (l : List UInt8) : Uni (l.map encB) := by
 intro e he
 obtain ⟨b, hb, rfl⟩ := List.mem_map.1 he
 cases l with
 | nil => simp at hb
 | cons c l => rfl
theorem p8 {o : Oper} {K : List AV → AH → Prop} {Q : Exit → Act → World → Prop} {s d e : TypeId} {x : Operand} {y : Opd} {b : ByteArray} {d0 : TypeDesc} (hop : o.op = .convert s d x) (hc : aB x = some y)
  (hs' : P.underlying s = some d0) (hd : P.underlying d = some (.slice e)) (he : P.underlying e = some (.int .u8)) (hs : SR ds w0 g n σ h a w) (hy : ag σ y = .str b)
  (hK : K (putA σ o.dst (.sl .sh (b.data.toList.map encB))) h) : o.wp P a w (bI ds w0 g n w K) Q := by
 have hv := ai hs.inv.gl hs.vl hc
 rw [hy] at hv
 simp only [VR] at hv
 have hrun := Lib.run_convert_string_bytes (P := P) w s d e b hs' hd he
 refine j7 (w' := Lib.bytesWorld w e b) (u := .slice (some ⟨w.heap.size, 0, none⟩) b.size (grownCap w b.size 0 e)) (vs := b.data.toList.map fun c => .int .u8 c.toNat) hs ?_ rfl rfl rfl (by rw [Lib.bytesWorld_size]; omega) (fun j hj => Lib.bytesWorld_at_old w e b j hj) (fun j v hj => ?_) ?_ rfl hK
 ·simp [execOp, hop, hv, hrun]
 ·have hjl : j < b.size := by
   have := (List.getElem?_eq_some_iff.1 hj).1
   simp at this; exact this
  rw [Lib.bytesWorld_cell w e b j hjl]
  simp only [List.getElem?_map] at hj
  cases hq : b.data.toList[j]? with
  | none => rw [hq] at hj; cases hj
  | some c => rw [hq] at hj; simp at hj; subst hj; simp [List.getD, hq]
 ·have hsz : (b.data.toList.map encB).length = b.size := by simp
  simp only [VR]
  refine .inr ⟨w.heap.size, 0, grownCap w b.size 0 e, by rw [hsz], by rw [hsz]; exact grownCap_ge w _ _ _, fun hc => (by cases hc), fun hc => (by cases hc), CD _, zj _ _ fun j c hj => ?_⟩
  exact Gh.addProt_at (by simp [List.getElem?_map, hj])
def zk (K : AV → Prop) (c x y : AV) : Prop := match c with | .bool b => K (if b then x.sh else y.sh) | _ => False
theorem yh {o : Oper} {K : List AV → AH → Prop} {Q : Exit → Act → World → Prop} {c x y : Operand} {c' x' y' : Opd} (hop : o.op = .pick c x y) (hc : aB c = some c') (hx : aB x = some x') (hy : aB y = some y')
  (hs : SR ds w0 g n σ h a w) (hk : zk (fun v => K (putA σ o.dst v) h) (ag σ c') (ag σ x') (ag σ y')) : o.wp P a w (bI ds w0 g n w K) Q := by
 have vc := ai hs.inv.gl hs.vl hc
 have vx := ai hs.inv.gl hs.vl hx
 have vy := ai hs.inv.gl hs.vl hy
 unfold zk at hk
 split at hk
 ·rename_i b hb
  rw [hb] at vc
  simp only [VR] at vc
  cases b
  ·exact eF hs (by simp [execOp, hop, vc, asBool]) (VR.sh _ _ vy) (la _) hk
  ·exact eF hs (by simp [execOp, hop, vc, asBool]) (VR.sh _ _ vx) (la _) hk
 ·exact hk.elim
theorem tx {o : Oper} {K : List AV → AH → Prop} {Q : Exit → Act → World → Prop} {x : Operand} {x' : Opd} (hop : o.op = .move x ∨ o.op = .assign x) (hx : aB x = some x')
  (hs : SR ds w0 g n σ h a w) (hk : K (putA σ o.dst (ag σ x').sh) h) : o.wp P a w (bI ds w0 g n w K) Q := by
 refine eF hs ?_ (VR.sh _ _ (ai hs.inv.gl hs.vl hx)) (la _) hk
 rcases hop with hop | hop <;> simp [execOp, hop]
def vj (K : AV → Prop) : AV → Prop
 | .box i o => K (.box i o)
 | .ref cs => K (.ref cs)
 | .fn (.func f) x y => K (.fn (.func f) x y)
 | _ => False
theorem vn {o : Oper} {K : List AV → AH → Prop} {Q : Exit → Act → World → Prop} {x : Operand} {x' : Opd} (hop : o.op = .nilCheck x) (hx : aB x = some x')
  (hs : SR ds w0 g n σ h a w) (hk : vj (fun v => K (putA σ o.dst v) h) (ag σ x')) : o.wp P a w (bI ds w0 g n w K) Q := by
 have vx := ai hs.inv.gl hs.vl hx
 unfold vj at hk
 split at hk <;> try (exact hk.elim)
 ·rename_i i q hb
  rw [hb] at vx
  have vx' := vx
  obtain ⟨B, hB, he⟩ := vx'
  exact eF hs (by simp [execOp, hop, he]) (he ▸ vx) rfl hk
 ·rename_i cs hb
  rw [hb] at vx
  have vx' := vx
  obtain ⟨B, q, he, _⟩ := vx'
  exact eF hs (by simp [execOp, hop, he]) (he ▸ vx) rfl hk
 ·rename_i f x1 y1 hb
  rw [hb] at vx
  have vx' := vx
  obtain ⟨xs, ys, he, _⟩ := vx'
  exact eF hs (by simp [execOp, hop, he]) (he ▸ vx) rfl hk
theorem yi {o : Oper} {K : List AV → AH → Prop} {Q : Exit → Act → World → Prop} {t : TypeId} {x : Operand} {x' : Opd} {d : TypeDesc} (hop : o.op = .makeInterface t x) (hx : aB x = some x') (ht : P.underlying t = some d) (hd : ∀ ms, d ≠ .interface ms)
  (hs : SR ds w0 g n σ h a w) (hk : K (putA σ o.dst (.iface t (ag σ x').sh)) h) : o.wp P a w (bI ds w0 g n w K) Q := by
 have vx := ai hs.inv.gl hs.vl hx
 refine eF hs (v := .iface t (ag σ x').sh) (u := .iface t (a.eval x)) ?_ ⟨_, rfl, VR.sh _ _ vx, la _⟩ rfl hk
 cases d <;> first | (simp [execOp, hop, Instr.makeInterface, run_underlying ht]; done) | (exact absurd rfl (hd _))
theorem yj {o : Oper} {K : List AV → AH → Prop} {Q : Exit → Act → World → Prop} {f : Fn} {c1 c2 : Array Operand} {l1 l2 : List Opd} (hop : o.op = .makeFunc f c1 c2)
  (h1 : c1.toList.mapM aB = some l1) (h2 : c2.toList.mapM aB = some l2)
  (hs : SR ds w0 g n σ h a w) (hk : K (putA σ o.dst (.fn f (shL (l1.map (ag σ))) (shL (l2.map (ag σ))))) h) : o.wp P a w (bI ds w0 g n w K) Q := by
 have key : ∀ (l : List Operand) (l' : List Opd), l.mapM aB = some l' → VL g (l'.map (ag σ)) (l.map a.eval) := by
  intro l
  induction l with
  | nil => intro l' hl; simp at hl; subst hl; simp [VL]
  | cons x l ih =>
   intro l' hl
   simp only [List.mapM_cons, Option.bind_eq_bind, Option.bind_eq_some_iff, Option.pure_def, Option.some.injEq] at hl
   obtain ⟨y, hy, l'', hl'', rfl⟩ := hl
   exact ⟨a.eval x, _, rfl, ai hs.inv.gl hs.vl hy, ih l'' hl''⟩
 refine eF hs (v := .fn f (shL (l1.map (ag σ))) (shL (l2.map (ag σ)))) (u := .func f (c1.map a.eval) (c2.map a.eval)) (by simp [execOp, hop, Instr.makeFunc]) ⟨_, _, rfl, ?_, ?_, j5 _, j5 _⟩ rfl hk
 ·rw [Array.toList_map]; exact VL.sh _ _ (key _ _ h1)
 ·rw [Array.toList_map]; exact VL.sh _ _ (key _ _ h2)
def rA (t i : Nat) (dst : Option Nat) (σ : List AV) (h : AH) (K : List AV → AH → Prop) : Prop :=
 match σ.getD t aa with
 | .tup cs => t < σ.length ∧ ∃ c, cs[i]? = some c ∧ K (putA (σ.set t (.tup (cs.set i c.sh))) dst c) h
 | _ => False
theorem rB {o : Oper} {K : List AV → AH → Prop} {Q : Exit → Act → World → Prop} {t i : Nat} (hop : o.op = .extract (.tmp t) i) (hs : SR ds w0 g n σ h a w) (hk : rA t i o.dst σ h K) : o.wp P a w (bI ds w0 g n w K) Q := by
 have vx := VL.getD hs.vl t
 unfold rA at hk
 split at hk <;> try (exact hk.elim)
 rename_i cs hcs
 obtain ⟨htl, c, hc, hK⟩ := hk
 rw [hcs] at vx
 obtain ⟨vs, he, hv⟩ := vx
 obtain ⟨u, hu, hcu⟩ := VL.get hv hc
 have hu' : vs[i]? = some u := by simpa using hu
 have hlen : t < a.tmps.size := by have := VL.length hs.vl; rw [Array.length_toList] at this; omega
 have hat : a.tmps[t]? = some (.tuple vs) := by
  have : a.tmps.getD t undef = a.tmps[t] := by simp [hlen]
  rw [this] at he; simp [hlen, he]
 have hσ : σ[t]? = some (.tup cs) := by
  have : σ.getD t aa = σ[t] := by simp [List.getD, htl]
  rw [this] at hcs; simp [htl, hcs]
 have hat' : a.tmps.toList[t]? = some (.tuple vs) := by simpa using hat
 have hself : a.tmps.toList.set t (.tuple vs) = a.tmps.toList := by
  apply List.ext_getElem?
  intro j
  by_cases hj : j = t
  ·subst hj; rw [List.getElem?_set_self (List.getElem?_eq_some_iff.1 hat').1, hat']
  ·rw [List.getElem?_set_ne (by omega)]
 have hself2 : vs.toList.set i u = vs.toList := by
  apply List.ext_getElem?
  intro j
  by_cases hj : j = i
  ·subst hj; rw [List.getElem?_set_self (List.getElem?_eq_some_iff.1 hu).1, hu]
  ·rw [List.getElem?_set_ne (by omega)]
 have hV : VR g (.tup (cs.set i c.sh)) (.tuple vs) := ⟨vs, rfl, by have := VL.set hv i (VR.sh c u hcu); rwa [hself2] at this⟩
 have hO : OV w0 g w (.tup cs) (.tuple vs) := OVL.get hs.ov hσ hat'
 simp only [OV] at hO
 have hO' : OV w0 g w (.tup (cs.set i c.sh)) (.tuple vs) := by
  simp only [OV]
  have := OVL.set hO i (v := c.sh) (u := u) (oL (la c))
  rwa [hself2] at this
 have htk : ∀ B, tk (.tup (cs.set i c.sh)) (.tuple vs) B + tk c u B = tk (.tup cs) (.tuple vs) B := by
  intro B
  simp only [tk]
  have := oM hv (v' := c.sh) (u' := u) hc hu B
  rw [hself2, oK (la c)] at this; omega
 have hvl : VL g (σ.set t (.tup (cs.set i c.sh))) a.tmps.toList := by have := VL.set hs.vl t hV; rwa [hself] at this
 have hov : OVL w0 g w (σ.set t (.tup (cs.set i c.sh))) a.tmps.toList := by have := OVL.set hs.ov t hO'; rwa [hself] at this
 have htt : ∀ B, tkL (σ.set t (.tup (cs.set i c.sh))) a.tmps.toList B + tk c u B = tkL σ a.tmps.toList B := by
  intro B
  have := oM hs.vl (v' := .tup (cs.set i c.sh)) (u' := .tuple vs) hσ hat' B
  rw [hself] at this
  have := htk B; omega
 have hs1 : SR ds w0 g n (σ.set t (.tup (cs.set i c.sh))) h a w := ⟨hvl, hov, hs.inv.le fun B => by have := htt B; omega, hs.df⟩
 refine fx ?_ (Gh.le.refl g) (Keep.refl _ _ _) (hs1.step o.dst hvl hov hcu (OVL.get hO hc hu) (hs.inv.le fun B => by have := htt B; omega)) hK
 simp [execOp, hop, Act.eval, he, Instr.extract, hu']
end
end Go.Proofs.YtibchilpaaiecaaGreatDoor.M
