/- What operations read and write; readers have one answer. -/
import Derived.Test.YtibchilpaaiecaaGreatDoorM12
set_option linter.unusedVariables false
set_option linter.unusedSimpArgs false
namespace Go.Proofs.YtibchilpaaiecaaGreatDoor.M
open Go.RowKit
def opds : COp → List Opd
 | .mov x | .take x | .box x | .rbox x | .ltake x | .load _ x | .nilck x | .un _ x | .cInt _ x | .cStr x | .cBytesStr x | .cStrBytes x | .faddr _ x | .fld _ _ x | .lens x | .lenl x | .mkif _ x | .tass _ _ x | .bconv x | .isnil _ _ x | .slnil _ x | .lenm x | .clr _ x => [x]
 | .mkmap => []
 | .look _ _ _ x y | .eqs _ _ x y => [x, y]
 | .mput _ x y z => [x, y, z]
 | .pick c x y => [c, x, y]
 | .alloc _ | .stuck => []
 | .store _ x y | .bin _ x y | .iaddr _ _ x y | .idxs x y | .idxa _ _ _ x y | .append _ _ _ x y | .mkslice _ _ x y => [x, y]
 | .extract t _ => [.tmp t]
 | .mkfn _ x y => x ++ y
 | .slice _ x lo hi mx => x :: (lo.toList ++ hi.toList ++ mx.toList)
 | .eqb _ x y | .mnmx _ x y => [x, y]
 | .build _ ps => ps.map (·.2.2)
 | .bslice _ _ xs => xs
 | .call _ args => args
 | .pcall _ args => args
 | .callv x args => x :: args
def isL : COp → Bool | .load _ _ | .look _ _ _ _ _ | .lenm _ => true | _ => false
def isQ : COp → Bool
 | .alloc _ | .box _ | .ltake _ | .store _ _ _ | .call _ _ | .pcall _ _ | .callv _ _ | .load _ _ | .mkslice _ _ _ _ | .mkmap | .look _ _ _ _ _ | .lenm _ | .mput _ _ _ _ | .clr _ _ => false
 | _ => true
def eZ : COp → Opd | .load _ x => x | .look _ _ _ x _ => x | .lenm x => x | _ => .con aa
def tK (op : COp) (ev : Opd → AV) (h : AH) : Option AV :=
 match op with
 | .load m x => ld m h (ev x)
 | .look d z ok x k => yl d z ok h (ev x) (ev k)
 | .lenm x => ym h (ev x)
 | _ => none
def tmpS : Opd → List Nat | .tmp t => [t] | .con _ => []
def rdS (op : COp) : List Nat := (opds op).flatMap tmpS
def wrS (op : COp) (dst : Option Nat) : List Nat :=
 dst.toList ++ (match op with
  | .take x | .box x | .append _ _ _ x _ | .bconv x => tmpS x
  | .store _ _ y => tmpS y
  | .extract t _ => [t]
  | _ => [])
def cz (u : Up) (l : List Nat) : Prop := ∀ p ∈ u, p.1 ∈ l
theorem bS {op : COp} {dst : Option Nat} (v : AV) : cz (putU dst v) (wrS op dst) := by
 intro p hp
 cases dst with
 | none => simp [putU] at hp
 | some d => simp only [putU, List.mem_singleton] at hp; subst hp; simp [wrS]
theorem fR {op : COp} {dst : Option Nat} {ev : Opd → AV} {x : Opd} (h : ∀ t, t ∈ tmpS x → t ∈ wrS op dst) : cz (lU ev x) (wrS op dst) := by
 intro p hp
 cases x with
 | con v => simp [lU] at hp
 | tmp t => simp only [lU, List.mem_singleton] at hp; subst hp; exact h t (by simp [tmpS])
theorem gT {u v : Up} {l : List Nat} (h : cz u l) (k : cz v l) : cz (u ++ v) l := by
 intro p hp; rcases List.mem_append.1 hp with hp | hp; exact h p hp; exact k p hp
theorem zJ {d : Option Nat} {h : AH} {o : Option AV} : val d h o = (o.map (putU d)).map (·, h) := by cases o <;> rfl
section
variable {op : COp} {d : Option Nat} {ev : Opd → AV} {h : AH}
theorem mC {r : Up × AH} (hr : xop op d ev h = some r) : cz r.1 (wrS op d) := by
 have hv : ∀ {o : Option AV}, val d h o = some r → cz r.1 (wrS op d) := by
  intro o ho
  simp only [val, Option.map_eq_some_iff] at ho
  obtain ⟨v, _, rfl⟩ := ho; exact bS v
 have ht : ∀ {x : Opd}, (∀ t, t ∈ tmpS x → t ∈ wrS op d) → cz (lU ev x) (wrS op d) := fun h => fR h
 cases op <;> simp only [xop] at hr <;> first | exact hv hr | skip
 case mov x => cases hr; exact bS _
 case take x => cases hr; exact gT (fR fun t ht => by simp [wrS, ht]) (bS _)
 case alloc cs => cases hr; exact bS _
 case ltake x => simp only [Option.map_eq_some_iff] at hr; obtain ⟨_, _, rfl⟩ := hr; exact bS _
 case box x => split at hr <;> cases hr; exact gT (fR fun t ht => by simp [wrS, ht]) (bS _)
 case store N x y =>
  split at hr <;> try (cases hr; done)
  simp only [Option.map_eq_some_iff] at hr; obtain ⟨_, _, rfl⟩ := hr
  exact fR fun t ht => by simp [wrS, ht]
 case extract t i =>
  simp only [Option.map_eq_some_iff] at hr; obtain ⟨u, hu, rfl⟩ := hr
  generalize ev (.tmp t) = x at hu
  cases x <;> simp only [oe] at hu <;> try (cases hu; done)
  split at hu <;> cases hu
  intro p hp
  rcases List.mem_cons.1 hp with rfl | hp
  ·simp [wrS]
  ·exact bS _ p hp
 case mkif t x => cases hr; exact bS _
 case mkfn f x y => cases hr; exact bS _
 case append S b str x y => simp only [Option.map_eq_some_iff] at hr; obtain ⟨_, _, rfl⟩ := hr; exact gT (fR fun t ht => by simp [wrS, ht]) (bS _)
 case bconv x => simp only [Option.map_eq_some_iff] at hr; obtain ⟨_, _, rfl⟩ := hr; exact gT (fR fun t ht => by simp [wrS, ht]) (bS _)
 case mkmap => cases hr; exact bS _
 case mput dd x y z =>
  split at hr <;> try (cases hr; done)
  simp only [Option.map_eq_some_iff] at hr; obtain ⟨_, _, rfl⟩ := hr
  intro p hp; cases hp
 case clr z x =>
  split at hr <;> try (cases hr; done)
  simp only [Option.map_eq_some_iff] at hr; obtain ⟨_, _, rfl⟩ := hr
  intro p hp; cases hp
 case mkslice b z x y => simp only [Option.map_eq_some_iff] at hr; obtain ⟨_, _, rfl⟩ := hr; exact bS _
 all_goals cases hr
theorem FQ (hq : isQ op = true) : ∃ f : Option Up, ∀ h, xop op d ev h = f.map (·, h) := by
 cases op <;> simp only [isQ, Bool.false_eq_true] at hq <;> simp only [xop, zJ]
 case append S b str x y => exact ⟨(appV S b (ev x) (rF str (ev y))).map (fun v => lU ev x ++ putU d v), fun h => by rw [Option.map_map]; rfl⟩
 case bconv x => exact ⟨(wD (ev x)).map (fun v => lU ev x ++ putU d v), fun h => by rw [Option.map_map]; rfl⟩
 all_goals first
  | exact ⟨_, fun h => rfl⟩
  | exact ⟨some _, fun h => rfl⟩
  | exact ⟨none, fun h => rfl⟩
theorem FT (hl : isL op = true) (h : AH) : xop op d ev h = val d h (tK op ev h) := by
 cases op <;> simp only [isL, Bool.false_eq_true] at hl <;> rfl
theorem tL {ev ev' : Opd → AV} : ∀ {ps : List (Nat × Nat × Opd)}, (∀ x ∈ ps.map (·.2.2), ev x = ev' x) → shP ev ps = shP ev' ps
 | [], _ => rfl
 | (o, s, x) :: r, h => by
  simp only [shP]
  rw [h x (by simp), tL fun y hy => h y (by simp only [List.map_cons, List.mem_cons]; exact .inr hy)]
theorem ny {ev ev' : Opd → AV} {o : Option Opd} (h : ∀ x ∈ o.toList, ev x = ev' x) : bndE ev o = bndE ev' o := by
 cases o with
 | none => rfl
 | some x => simp only [bndE]; rw [h x (by simp)]
theorem zK {ev' : Opd → AV} (he : ∀ x ∈ opds op, ev x = ev' x) : xop op d ev h = xop op d ev' h := by
 have tu : ∀ x, x ∈ opds op → lU ev x = lU ev' x := fun x hx => by
  cases x with
  | tmp t => simp only [lU]; rw [he _ hx]
  | con v => rfl
 cases op <;> simp only [opds, List.mem_cons, List.not_mem_nil, or_false, forall_eq, forall_eq_or_imp, List.mem_append] at he tu <;> simp only [xop]
 case slice S x lo hi mx =>
  rw [he.1, ny (o := lo) fun x hx => he.2 x (.inl (.inl hx)), ny (o := hi) fun x hx => he.2 x (.inl (.inr hx)), ny (o := mx) fun x hx => he.2 x (.inr hx)]
 case mkfn f x y =>
  rw [List.map_congr_left (l := x) fun z hz => he z (.inl hz), List.map_congr_left (l := y) fun z hz => he z (.inr hz)]
 case build z ps => rw [tL he]
 case bslice S tok xs =>
  have : (xs.map fun x => (ev x).sh) = xs.map fun x => (ev' x).sh := List.map_congr_left fun x hx => by rw [he x hx]
  rw [this]
 all_goals first | (rw [he]; done) | (rw [he, tu]; done) | (rw [he.1, he.2]; done) | (rw [he.1, he.2, tu.1]; done) | (rw [he.1, he.2, tu.2]; done) | (rw [he.1, he.2.1, he.2.2]; done) | skip
theorem tM {ev' : Opd → AV} (he : ∀ x ∈ opds op, ev x = ev' x) : bZ op ev = bZ op ev' := by
 cases op <;> simp only [opds, List.mem_cons, forall_eq_or_imp] at he <;> simp only [bZ]
 ·rw [List.map_congr_left he]
 ·rw [List.map_congr_left he]
 ·rw [he.1, List.map_congr_left he.2]
end
section
variable {P : Program} {op : COp} {dst : Option Nat} {ev : Opd → AV} {h : AH}
theorem oh {ev' : Opd → AV} {K : Up → AH → Prop} (he : ∀ x ∈ opds op, ev x = ev' x) : Wu P op dst ev h K ↔ Wu P op dst ev' h K := by
 unfold Wu; rw [zK he, tM he]
theorem iL {K K' : Up → AH → Prop} (hk : ∀ u h', K u h' → K' u h') (hw : Wu P op dst ev h K) : Wu P op dst ev h K' := by
 unfold Wu at *
 by_cases hc : fk op = true <;> simp only [hc, Bool.false_eq_true, if_true, if_false] at hw ⊢
 ·obtain ⟨f, args, p, h1, h2⟩ := hw; exact ⟨f, args, p, h1, h2.mono fun r h' => hk _ _⟩
 ·obtain ⟨r, h1, h2⟩ := hw; exact ⟨r, h1, hk _ _ h2⟩
theorem rN {K : Up → AH → Prop} (hw : Wu P op dst ev h K) : ∃ u h', K u h' := by
 unfold Wu at hw
 split at hw
 ·obtain ⟨f, args, p, h1, h2⟩ := hw; obtain ⟨r, h', hk⟩ := h2.some_; exact ⟨_, _, hk⟩
 ·obtain ⟨r, h1, h2⟩ := hw; exact ⟨_, _, h2⟩
theorem zL {K : Up → AH → Prop} (hw : Wu P op dst ev h K) : Wu P op dst ev h (fun u h' => cz u (wrS op dst) ∧ K u h') := by
 unfold Wu at *
 by_cases hc : fk op = true <;> simp only [hc, Bool.false_eq_true, if_true, if_false] at hw ⊢
 ·obtain ⟨f, args, p, h1, h2⟩ := hw; exact ⟨f, args, p, h1, h2.mono fun r h' hr => ⟨bS _, hr⟩⟩
 ·obtain ⟨r, h1, h2⟩ := hw; exact ⟨r, h1, mC h1, h2⟩
theorem rO (hq : isQ op = true ∨ isL op = true) : fk op = false := by
 cases op <;> simp [isQ, isL] at hq <;> rfl
theorem reader (hq : isQ op = true ∨ isL op = true) : (∃ u, cz u (wrS op dst) ∧ ∀ K : Up → AH → Prop, Wu P op dst ev h K ↔ K u h) ∨ ∀ K : Up → AH → Prop, ¬ Wu P op dst ev h K := by
 have hx : ∃ f : Option Up, xop op dst ev h = f.map (·, h) := by
  rcases hq with hq | hl
  ·obtain ⟨f, hf⟩ := FQ (d := dst) (ev := ev) hq; exact ⟨f, hf h⟩
  ·exact ⟨_, by rw [FT hl, zJ]⟩
 have hn := rO hq
 obtain ⟨f, hf⟩ := hx
 unfold Wu
 simp only [hn, Bool.false_eq_true, if_false]
 cases f with
 | none => right; rintro K ⟨r, hr, _⟩; rw [hf] at hr; cases hr
 | some u => left; exact ⟨u, mC hf, fun K => ⟨fun ⟨r, hr, hk⟩ => by rw [hf] at hr; cases hr; exact hk, fun hk => ⟨(u, h), hf, hk⟩⟩⟩
theorem FU (hq : isQ op = true) (h' : AH) (K : Up → AH → Prop) : Wu P op dst ev h K ↔ Wu P op dst ev h' (fun u _ => K u h) := by
 obtain ⟨f, hf⟩ := FQ (d := dst) (ev := ev) hq
 unfold Wu
 simp only [rO (.inl hq), Bool.false_eq_true, if_false, hf]
 cases f with
 | none => simp
 | some u => simp
theorem vG (hq : isQ op = true ∨ isL op = true) {K : Up → AH → Prop} (hw : Wu P op dst ev h K) : Wu P op dst ev h (fun u h' => h' = h ∧ K u h') := by
 rcases reader (P := P) (dst := dst) (ev := ev) (h := h) hq with ⟨u, _, hu⟩ | hn
 ·exact (hu _).2 ⟨rfl, (hu K).1 hw⟩
 ·exact absurd hw (hn K)
def okS (S : List Nat) (x : AV) : Prop := (∃ cs, x = .ref cs) ∨ (∃ id off, x = .box id off ∧ id ∈ S) ∨ (∃ id, x = .mp id ∧ id ∈ S) ∨ x = .nilm
def rP (S : List Nat) (h h' : AH) : Prop := ∀ id ∈ S, h'[id]? = h[id]?
theorem yx {S : List Nat} {m : Option Nat} {x : AV} {h' : AH} (hx : okS S x) (hs : rP S h h') : ld m h' x = ld m h x := by
 rcases hx with ⟨cs, rfl⟩ | ⟨id, off, rfl, hid⟩ | ⟨id, rfl, hid⟩ | rfl
 ·rfl
 ·simp only [ld, hs id hid]
 ·rfl
 ·rfl
theorem qM {S : List Nat} {x : AV} {h' : AH} (hx : okS S x) (hs : rP S h h') : qa h' x = qa h x := by
 rcases hx with ⟨cs, rfl⟩ | ⟨id, off, rfl, hid⟩ | ⟨id, rfl, hid⟩ | rfl
 ·rfl
 ·rfl
 ·simp only [qa, hs id hid]
 ·rfl
theorem yy {S : List Nat} {h' : AH} (hx : okS S (ev (eZ op))) (hs : rP S h h') : tK op ev h' = tK op ev h := by
 cases op <;> simp only [tK]
 ·exact yx hx hs
 ·rename_i d z ok x k
  have := qM (x := ev x) hx hs
  simp only [yl, this]
 ·rename_i x
  have := qM (x := ev x) hx hs
  simp only [ym, this]
theorem rQ {S : List Nat} {h' : AH} (hq : isQ op = true ∨ (isL op = true ∧ (h' = h ∨ (okS S (ev (eZ op)) ∧ rP S h h')))) (K : Up → AH → Prop) :
  Wu P op dst ev h' K ↔ Wu P op dst ev h (fun u _ => K u h') := by
 rcases hq with hq | ⟨hl, hh⟩
 ·exact FU hq h K
 ·rcases hh with rfl | ⟨ho, hs⟩
  ·rcases reader (P := P) (dst := dst) (ev := ev) (h := h') (.inr hl) with ⟨u, _, hu⟩ | hn
   ·exact (hu K).trans (hu fun u _ => K u h').symm
   ·exact ⟨fun hw => absurd hw (hn _), fun hw => absurd hw (hn _)⟩
  ·unfold Wu
   simp only [rO (.inr hl), Bool.false_eq_true, if_false, FT hl, zJ, yy ho hs]
   cases tK op ev h <;> simp
end
def preL (S : List Nat) (f : Bool) (o : CO) (σ : List AV) : Prop := f = true → isL o.op = true → gV σ o.guard = some true → okS S (ag σ (eZ o.op))
def lh (S : List Nat) (f : Bool) (o : CO) (h h' : AH) : Prop := f = true → isL o.op = false → rP S h h'
theorem lh.refl {S : List Nat} (f : Bool) (o : CO) (h : AH) : lh S f o h h := fun _ _ _ _ => rfl
def WgD (P : Program) (S : List Nat) (f : Bool) (o : CO) (σ : List AV) (h : AH) (K : List AV → AH → Prop) : Prop :=
 preL S f o σ ∧ Wu P (aW o σ) o.dst (ag σ) h (fun u h' => lh S f o h h' ∧ K (putL σ u) h')
def vH (P : Program) (S : List Nat) : List (CO × Bool) → List AV → AH → (List AV → AH → Prop) → Prop
 | [], σ, h, K => K σ h
 | p :: rest, σ, h, K => WgD P S p.2 p.1 σ h (fun σ' h' => vH P S rest σ' h' K)
def gdS (o : CO) : List Nat := match o.guard with | some (s, _) => [s] | none => []
def rdN (o : CO) : List Nat := rdS o.op ++ gdS o
def wrN (o : CO) : List Nat := wrS o.op o.dst
def iU (a b : List Nat) : Bool := a.all fun x => !b.contains x
def vI (p q : CO × Bool) : Bool :=
 iU (wrN p.1) (rdN q.1 ++ wrN q.1) && iU (wrN q.1) (rdN p.1) &&
 (isQ p.1.op || isQ q.1.op || (isP p.1.op && !fk q.1.op) || (isP q.1.op && !fk p.1.op) || (isL p.1.op && isL q.1.op) || (isL p.1.op && p.2 && q.2) || (isL q.1.op && p.2 && q.2))
section
variable {P : Program} {S : List Nat}
theorem lW {f : Bool} {o : CO} {σ : List AV} {h : AH} {K : List AV → AH → Prop} :
  WgD P S f o σ h K ↔ preL S f o σ ∧ Wu P (aW o σ) o.dst (ag σ) h (fun u h' => lh S f o h h' ∧ K (putL σ u) h') := Iff.rfl
theorem IZ {f : Bool} {o : CO} {σ : List AV} {h : AH} {K : List AV → AH → Prop} (hw : WgD P S f o σ h K) : Wg P o σ h K := by
 unfold Wg Wop; exact iL (fun u h' x => x.2) hw.2
theorem wN {σ : List AV} {u : Up} {l : List Nat} (hu : cz u l) {s : Nat} (hs : s ∉ l) : (putL σ u)[s]? = σ[s]? := by
 induction u generalizing σ with
 | nil => rfl
 | cons p u ih =>
  simp only [putL]
  rw [ih fun q hq => hu q (by simp [hq])]
  have : p.1 ≠ s := fun e => hs (e ▸ hu p (by simp))
  rw [List.getElem?_set_ne this]
theorem j8 {σ : List AV} {u : Up} {l : List Nat} (hu : cz u l) {x : Opd} (hx : ∀ t ∈ tmpS x, t ∉ l) : ag (putL σ u) x = ag σ x := by
 cases x with
 | con v => rfl
 | tmp t =>
  simp only [ag, List.getD]
  rw [wN hu (hx t (by simp [tmpS]))]
theorem mD {u v : Up} {a b : List Nat} (hu : cz u a) (hv : cz v b) (hab : ∀ x ∈ a, x ∉ b) : ∀ σ : List AV, putL (putL σ u) v = putL (putL σ v) u := by
 induction u with
 | nil => intro σ; rfl
 | cons p u ih =>
  intro σ
  simp only [putL]
  rw [ih (fun q hq => hu q (by simp [hq]))]
  congr 1
  have hp : p.1 ∉ b := hab _ (hu p (by simp))
  clear ih hu
  induction v generalizing σ with
  | nil => rfl
  | cons q v ihv =>
   simp only [putL]
   have hne : p.1 ≠ q.1 := fun e => hp (e ▸ hv q (by simp))
   rw [List.set_comm _ _ hne]
   exact ihv (fun x hx => hv x (by simp [hx])) _
theorem dM {a b : List Nat} (h : iU a b = true) : ∀ x ∈ a, x ∉ b := by
 intro x hx hb
 have := List.all_eq_true.1 h x hx
 simp [hb] at this
theorem om (o : CO) (σ : List AV) : ∀ x ∈ opds (aW o σ), ∀ t ∈ tmpS x, t ∈ rdN o := by
 intro x hx t ht
 unfold aW at hx
 split at hx
 ·exact List.mem_append.2 (.inl (List.mem_flatMap.2 ⟨x, hx, ht⟩))
 ·simp only [opds, List.mem_singleton] at hx; subst hx; simp [tmpS] at ht
 ·simp [opds] at hx
theorem oo (o : CO) (σ : List AV) : ∀ t ∈ wrS (aW o σ) o.dst, t ∈ wrN o := by
 intro t ht
 unfold aW at ht
 split at ht
 ·exact ht
 ·simp only [wrS, tmpS, List.append_nil] at ht; simp only [wrN, wrS, List.mem_append]; exact .inl (by simpa using ht)
 ·simp only [wrS, List.append_nil] at ht; simp only [wrN, wrS, List.mem_append]; exact .inl (by simpa using ht)
theorem oY (o : CO) (σ : List AV) (h : isQ o.op = true) : isQ (aW o σ) = true := by
 unfold aW; split
 ·exact h
 ·rfl
 ·rfl
theorem oZ (o : CO) (σ : List AV) (h : isL o.op = true) : isQ (aW o σ) = true ∨ (isL (aW o σ) = true ∧ gV σ o.guard = some true ∧ aW o σ = o.op) := by
 unfold aW; split
 ·rename_i hw; exact .inr ⟨h, hw, rfl⟩
 ·exact .inl rfl
 ·exact .inl rfl
theorem EX {σ : List AV} {u : Up} {l : List Nat} (hu : cz u l) {o : CO} (hg : ∀ t ∈ gdS o, t ∉ l) : gV (putL σ u) o.guard = gV σ o.guard := by
 unfold gV gdS at *
 cases hgd : o.guard with
 | none => rfl
 | some sw => obtain ⟨s, want⟩ := sw; simp only [hgd] at hg ⊢; rw [wN hu (hg s (by simp))]
theorem mE {σ : List AV} {u : Up} {l : List Nat} (hu : cz u l) {o : CO} (hg : ∀ t ∈ rdN o, t ∉ l) : aW o (putL σ u) = aW o σ := by
 unfold aW
 rw [EX hu fun t ht => hg t (List.mem_append.2 (.inr ht))]
theorem mF {σ : List AV} {u : Up} {l : List Nat} (hu : cz u l) {o : CO} (hg : ∀ t ∈ rdN o, t ∉ l) {f : Bool} : preL S f o (putL σ u) ↔ preL S f o σ := by
 unfold preL
 rw [EX hu fun t ht => hg t (List.mem_append.2 (.inr ht))]
 have : isL o.op = true → ag (putL σ u) (eZ o.op) = ag σ (eZ o.op) := by
  intro hl
  refine j8 hu fun t ht => hg t ?_
  cases e : o.op <;> simp [e, isL] at hl <;> simp only [e, eZ] at ht <;> exact List.mem_append.2 (.inl (List.mem_flatMap.2 ⟨_, by simp [e, opds]; first | done | exact .inl rfl, ht⟩))
 constructor
 ·intro h a b c; have h2 := h a b c; rwa [this b] at h2
 ·intro h a b c; rw [this b]; exact h a b c
theorem Kx {p q : CO × Bool} (hp : isP p.1.op = false) (hq : isP q.1.op = false) (hc : vI p q = true) {σ : List AV} {h : AH} {K : List AV → AH → Prop}
  (H : WgD P S p.2 p.1 σ h (fun σ1 h1 => WgD P S q.2 q.1 σ1 h1 K)) : WgD P S q.2 q.1 σ h (fun σ1 h1 => WgD P S p.2 p.1 σ1 h1 K) := by
 obtain ⟨oi, fi⟩ := p
 obtain ⟨oj, fj⟩ := q
 simp only at hp hq
 simp only [vI, Bool.and_eq_true] at hc
 obtain ⟨⟨c1, c2⟩, c3⟩ := hc
 simp only [hp, hq, Bool.false_and, Bool.or_false] at c3
 have d1 := dM c1
 have d2 := dM c2
 simp only at H d1 d2 c3 ⊢
 have dj : ∀ {u : Up}, cz u (wrS (aW oi σ) oi.dst) → cz u (wrN oi) := fun hu x hx => oo oi σ _ (hu x hx)
 have di : ∀ {u : Up}, cz u (wrS (aW oj σ) oj.dst) → cz u (wrN oj) := fun hu x hx => oo oj σ _ (hu x hx)
 have rj : ∀ t ∈ rdN oj, t ∉ wrN oi := fun t ht hn => d1 t hn (List.mem_append.2 (.inl ht))
 have ri : ∀ t ∈ rdN oi, t ∉ wrN oj := fun t ht hn => d2 t hn ht
 have ww : ∀ t ∈ wrN oi, t ∉ wrN oj := fun t ht hn => d1 t ht (List.mem_append.2 (.inr hn))
 have cj : ∀ {u : Up}, cz u (wrN oi) → ∀ h1 (K' : Up → AH → Prop), Wu P (aW oj (putL σ u)) oj.dst (ag (putL σ u)) h1 K' ↔ Wu P (aW oj σ) oj.dst (ag σ) h1 K' := by
  intro u hu h1 K'
  rw [mE hu rj]
  exact oh fun x hx => j8 hu fun t ht => rj t (om oj σ x hx t ht)
 have ci : ∀ {u : Up}, cz u (wrN oj) → ∀ h1 (K' : Up → AH → Prop), Wu P (aW oi (putL σ u)) oi.dst (ag (putL σ u)) h1 K' ↔ Wu P (aW oi σ) oi.dst (ag σ) h1 K' := by
  intro u hu h1 K'
  rw [mE hu ri]
  exact oh fun x hx => j8 hu fun t ht => ri t (om oi σ x hx t ht)
 rw [lW] at H ⊢
 obtain ⟨hAi, H⟩ := H
 -- what stands behind oi, in one form
 have H1 : Wu P (aW oi σ) oi.dst (ag σ) h (fun u h1 => cz u (wrN oi) ∧ lh S fi oi h h1 ∧ preL S fj oj σ ∧
   Wu P (aW oj σ) oj.dst (ag σ) h1 (fun u' h2 => lh S fj oj h1 h2 ∧ K (putL (putL σ u) u') h2)) := by
  refine iL ?_ (zL H)
  rintro u h1 ⟨hk, hpc, hw⟩
  rw [lW] at hw
  obtain ⟨ha, hw⟩ := hw
  exact ⟨dj hk, hpc, (mF (dj hk) rj).1 ha, (cj (dj hk) h1 _).1 hw⟩
 by_cases hrj : isQ (aW oj σ) = true ∨ isL (aW oj σ) = true
 ·-- oj reads
  obtain ⟨u0, h0, hu0, hpc0, hAj, hw0⟩ := rN H1
  -- heaps behind oi are as good as h for oj
  have heap : ∀ h1, lh S fi oi h h1 → (isQ oi.op = true ∨ isL oi.op = true → h1 = h) → isQ (aW oj σ) = true ∨ (isL (aW oj σ) = true ∧ (h1 = h ∨ (okS S (ag σ (eZ (aW oj σ))) ∧ rP S h h1))) := by
   intro h1 hpc hsame
   by_cases hqj : isQ (aW oj σ) = true
   ·exact .inl hqj
   ·have hlj : isL (aW oj σ) = true := hrj.resolve_left hqj
    refine .inr ⟨hlj, ?_⟩
    by_cases hri : isQ oi.op = true ∨ isL oi.op = true
    ·exact .inl (hsame hri)
    ·right
     have hwj : gV σ oj.guard = some true := by
      cases e : gV σ oj.guard with
      | none => simp [aW, e, isL] at hlj
      | some b => cases b with
       | true => rfl
       | false => simp [aW, e, isL] at hlj
     have hoj : aW oj σ = oj.op := by simp [aW, hwj]
     have hloj : isL oj.op = true := by rw [← hoj]; exact hlj
     have hnqj : isQ oj.op = false := by rw [← hoj]; simpa using hqj
     simp only [not_or, Bool.not_eq_true] at hri
     simp [hri.1, hri.2, hnqj, hloj] at c3
     rw [hoj]
     exact ⟨hAj c3.2 hloj hwj, hpc c3.1 hri.2⟩
  have H2 : Wu P (aW oi σ) oi.dst (ag σ) h (fun u h1 => (isQ oi.op = true ∨ isL oi.op = true → h1 = h) ∧ cz u (wrN oi) ∧ lh S fi oi h h1 ∧ preL S fj oj σ ∧
    Wu P (aW oj σ) oj.dst (ag σ) h1 (fun u' h2 => lh S fj oj h1 h2 ∧ K (putL (putL σ u) u') h2)) := by
   by_cases hri : isQ oi.op = true ∨ isL oi.op = true
   ·have hre : isQ (aW oi σ) = true ∨ isL (aW oi σ) = true := by
     rcases hri with hq | hl
     ·exact .inl (oY oi σ hq)
     ·rcases oZ oi σ hl with hq | hl; exact .inl hq; exact .inr hl.1
    exact iL (fun u h' hk => ⟨fun _ => hk.1, hk.2⟩) (vG hre H1)
   ·exact iL (fun u h' hk => ⟨fun hh => absurd hh hri, hk⟩) H1
  obtain ⟨u0, h0, hs0, hu0, hpc0, hAj, hw0⟩ := rN H2
  have hw0' := (rQ (heap h0 hpc0 hs0) _).1 hw0
  rcases reader (P := P) (dst := oj.dst) (ev := ag σ) (h := h) hrj with ⟨uj, hkj, huj⟩ | hn
  ·refine ⟨hAj, (huj _).2 ⟨lh.refl _ _ _, ?_⟩⟩
   rw [lW]
   refine ⟨(mF (di hkj) ri).2 hAi, (ci (di hkj) h _).2 ?_⟩
   refine iL ?_ H2
   rintro u h1 ⟨hsame, hk, hpc, _, hw⟩
   have hw' := (huj _).1 ((rQ (heap h1 hpc hsame) _).1 hw)
   refine ⟨hpc, ?_⟩
   rw [← mD hk (di hkj) ww]
   exact hw'.2
  ·exact absurd hw0' (hn _)
 ·-- oj is an effect, so oi reads
  have hnq : isQ oj.op = false := by
   cases e : isQ oj.op with
   | false => rfl
   | true => exact absurd (.inl (oY oj σ e)) hrj
  have hnl : isL oj.op = false := by
   cases e : isL oj.op with
   | false => rfl
   | true =>
    rcases oZ oj σ e with hq | hl
    ·exact absurd (.inl hq) hrj
    ·exact absurd (.inr hl.1) hrj
  have hri : isQ (aW oi σ) = true ∨ (isL (aW oi σ) = true ∧ gV σ oi.guard = some true ∧ aW oi σ = oi.op ∧ isL oi.op = true ∧ fi = true ∧ fj = true) := by
   by_cases hqi : isQ oi.op = true
   ·exact .inl (oY oi σ hqi)
   ·have hqi' : isQ oi.op = false := by simpa using hqi
    simp [hqi', hnq, hnl] at c3
    rcases oZ oi σ c3.1.1 with hq | ⟨hl, hw, he⟩
    ·exact .inl hq
    ·exact .inr ⟨hl, hw, he, c3.1.1, c3.1.2, c3.2⟩
  have hri' : isQ (aW oi σ) = true ∨ isL (aW oi σ) = true := hri.imp id (fun x => x.1)
  rcases reader (P := P) (dst := oi.dst) (ev := ag σ) (h := h) hri' with ⟨ui, hki, hui⟩ | hn
  ·obtain ⟨_, _, hAj, hw⟩ := (hui _).1 H1
   refine ⟨hAj, iL ?_ (zL hw)⟩
   rintro u h1 ⟨hk, hpc, hK⟩
   refine ⟨hpc, ?_⟩
   rw [lW]
   refine ⟨(mF (di hk) ri).2 hAi, (ci (di hk) h1 _).2 ?_⟩
   refine (rQ (S := S) (h := h) ?_ _).2 ((hui _).2 ⟨lh.refl _ _ _, ?_⟩)
   ·rcases hri with hq | ⟨hl, hwa, he, hlo, hfi, hfj⟩
    ·exact .inl hq
    ·refine .inr ⟨hl, .inr ⟨?_, hpc hfj hnl⟩⟩
     rw [he]
     exact hAi hfi hlo hwa
   ·rw [← mD (dj hki) (di hk) ww]; exact hK
  ·exact absurd H1 (hn _)
theorem zM (o : CO) (σ : List AV) (h : isP o.op = true) : isQ (aW o σ) = true ∨ aW o σ = o.op := by
 unfold aW; split
 ·exact .inr rfl
 ·exact .inl rfl
 ·exact .inl rfl
theorem CR (o : CO) (σ : List AV) (h : fk o.op = false) : fk (aW o σ) = false := by
 unfold aW; split
 ·exact h
 ·rfl
 ·rfl
theorem I0 {f : Bool} {o : CO} {h : AH} : lh S f o h h := lh.refl f o h
theorem I1 {p q : CO × Bool} (hp : isP p.1.op = true) (hq : fk q.1.op = false) (h1 : iU (wrN p.1) (rdN q.1 ++ wrN q.1) = true) (h2 : iU (wrN q.1) (rdN p.1) = true) {σ : List AV} {h : AH} {K : List AV → AH → Prop} :
  WgD P S p.2 p.1 σ h (fun σ1 h1 => WgD P S q.2 q.1 σ1 h1 K) ↔ WgD P S q.2 q.1 σ h (fun σ1 h1 => WgD P S p.2 p.1 σ1 h1 K) := by
 obtain ⟨oi, fi⟩ := p
 obtain ⟨oj, fj⟩ := q
 have d1 := dM h1
 have d2 := dM h2
 simp only at hp hq d1 d2 ⊢
 have hil : isL oi.op = false := by cases e : oi.op <;> simp [e, isP] at hp <;> rfl
 have dj : ∀ {u : Up}, cz u (wrS (aW oi σ) oi.dst) → cz u (wrN oi) := fun hu x hx => oo oi σ _ (hu x hx)
 have di : ∀ {u : Up}, cz u (wrS (aW oj σ) oj.dst) → cz u (wrN oj) := fun hu x hx => oo oj σ _ (hu x hx)
 have rj : ∀ t ∈ rdN oj, t ∉ wrN oi := fun t ht hn => d1 t hn (List.mem_append.2 (.inl ht))
 have ri : ∀ t ∈ rdN oi, t ∉ wrN oj := fun t ht hn => d2 t hn ht
 have ww : ∀ t ∈ wrN oi, t ∉ wrN oj := fun t ht hn => d1 t ht (List.mem_append.2 (.inr hn))
 have cj : ∀ {u : Up}, cz u (wrN oi) → ∀ h1 (K' : Up → AH → Prop), Wu P (aW oj (putL σ u)) oj.dst (ag (putL σ u)) h1 K' ↔ Wu P (aW oj σ) oj.dst (ag σ) h1 K' := by
  intro u hu h1 K'
  rw [mE hu rj]
  exact oh fun x hx => j8 hu fun t ht => rj t (om oj σ x hx t ht)
 have ci : ∀ {u : Up}, cz u (wrN oj) → ∀ h1 (K' : Up → AH → Prop), Wu P (aW oi (putL σ u)) oi.dst (ag (putL σ u)) h1 K' ↔ Wu P (aW oi σ) oi.dst (ag σ) h1 K' := by
  intro u hu h1 K'
  rw [mE hu ri]
  exact oh fun x hx => j8 hu fun t ht => ri t (om oi σ x hx t ht)
 have hncj : fk (aW oj σ) = false := CR oj σ hq
 -- oj is a function of the slots and the boxes
 have jf : ∀ (h1 : AH) (K' : Up → AH → Prop), Wu P (aW oj σ) oj.dst (ag σ) h1 K' ↔ ∃ r, xop (aW oj σ) oj.dst (ag σ) h1 = some r ∧ K' r.1 r.2 := by
  intro h1 K'; unfold Wu; rw [hncj]; simp
 -- oi neither reads nor writes boxes, whatever it comes to
 have ip : ∃ W : (Up → Prop) → Prop, (∀ (h1 : AH) (K' : Up → AH → Prop), Wu P (aW oi σ) oi.dst (ag σ) h1 K' ↔ W (fun u => K' u h1)) ∧ (∀ A B : Up → Prop, (∀ u, A u → B u) → W A → W B) ∧ (∀ A, W A → ∃ u, A u) ∧ ∀ A, W A → W (fun u => cz u (wrN oi) ∧ A u) := by
  rcases zM oi σ hp with hQ | he
  ·obtain ⟨f, hf⟩ := FQ (d := oi.dst) (ev := ag σ) hQ
   refine ⟨fun A => ∃ u, f = some u ∧ A u, fun h1 K' => ?_, fun A B hab ⟨u, hu, ha⟩ => ⟨u, hu, hab u ha⟩, fun A ⟨u, hu, ha⟩ => ⟨u, ha⟩, fun A ⟨u, hu, ha⟩ => ⟨u, hu, dj (mC (h := []) (r := (u, [])) (by rw [hf, hu]; rfl)), ha⟩⟩
   unfold Wu
   rw [rO (.inl hQ), if_neg (by simp), hf]
   cases f <;> simp
  ·have hcl : ∃ f args, aW oi σ = .pcall f args := by rw [he]; cases e : oi.op <;> simp [e, isP] at hp; exact ⟨_, _, rfl⟩
   obtain ⟨f, args, hcl⟩ := hcl
   refine ⟨fun A => mrL (shL (args.map (ag σ))) = 0 ∧ eU P f (shL (args.map (ag σ))) [] (fun r h' => h' = [] ∧ A (putU oi.dst r)), fun h1 K' => ?_, fun A B hab ha => ⟨ha.1, ha.2.mono fun r h' x => ⟨x.1, hab _ x.2⟩⟩, fun A ha => ?_, fun A ha => ⟨ha.1, ha.2.mono fun r h' x => ⟨x.1, dj (bS _), x.2⟩⟩⟩
   ·rw [hcl]
    unfold Wu
    simp only [fk, if_true, bZ, Option.some.injEq, Prod.mk.injEq]
    constructor
    ·rintro ⟨f', a', p', ⟨rfl, rfl, rfl⟩, hh⟩; exact hh
    ·intro hh; exact ⟨_, _, _, ⟨rfl, rfl, rfl⟩, hh⟩
   ·obtain ⟨r, h', hk⟩ := ha.2.2.2; exact ⟨_, hk.2⟩
 obtain ⟨W, w1, w2, w3, w4⟩ := ip
 have pl : ∀ τ, preL S fi oi τ := fun τ _ hl => by rw [hil] at hl; cases hl
 constructor
 ·rintro ⟨_, H⟩
  rw [w1] at H
  have H := w4 _ H
  have H' : W (fun u => cz u (wrN oi) ∧ preL S fj oj σ ∧ ∃ r, xop (aW oj σ) oj.dst (ag σ) h = some r ∧ lh S fj oj h r.2 ∧ K (putL (putL σ u) r.1) r.2) := by
   refine w2 _ _ ?_ H
   rintro u ⟨hk, hpc, ha, hw⟩
   exact ⟨hk, (mF hk rj).1 ha, (jf h _).1 ((cj hk h _).1 hw)⟩
  obtain ⟨u0, hk0, ha0, r, hr, _⟩ := w3 _ H'
  have hkr := di (mC hr)
  obtain ⟨u1, _, _, r1, hr1, hpc1, _⟩ := w3 _ H'
  rw [hr] at hr1; cases hr1
  refine ⟨ha0, (jf h _).2 ⟨r, hr, hpc1, pl _, (ci hkr r.2 _).2 ((w1 r.2 _).2 ?_)⟩⟩
  refine w2 _ _ ?_ H'
  rintro u ⟨hk, _, r', hr', hpc, hK⟩
  rw [hr] at hr'; cases hr'
  exact ⟨I0, by rw [← mD hk hkr ww]; exact hK⟩
 ·rintro ⟨ha, H⟩
  obtain ⟨r, hr, hpc, _, hw⟩ := (jf h _).1 H
  have hkr := di (mC hr)
  have hw := w4 _ ((w1 r.2 _).1 ((ci hkr r.2 _).1 hw))
  refine ⟨pl _, (w1 h _).2 (w2 _ _ ?_ hw)⟩
  rintro u ⟨hk, _, hK⟩
  refine ⟨I0, (mF hk rj).2 ha, (cj hk h _).2 ((jf h _).2 ⟨r, hr, hpc, ?_⟩)⟩
  rw [mD hk hkr ww]; exact hK
theorem vJ {a b : List Nat} (h : iU a b = true) : iU b a = true := by
 refine List.all_eq_true.2 fun x hx => ?_
 cases e : a.contains x with
 | false => rfl
 | true => exact absurd hx (dM h x (by simpa using e))
theorem yz {a b c : List Nat} (h : iU a (b ++ c) = true) : iU a b = true ∧ iU a c = true := by
 constructor <;> refine List.all_eq_true.2 fun x hx => ?_
 ·cases e : b.contains x with
  | false => rfl
  | true => exact absurd (List.mem_append.2 (.inl (by simpa using e))) (dM h x hx)
 ·cases e : c.contains x with
  | false => rfl
  | true => exact absurd (List.mem_append.2 (.inr (by simpa using e))) (dM h x hx)
theorem yA {a b c : List Nat} (h : iU a b = true) (k : iU a c = true) : iU a (b ++ c) = true := by
 refine List.all_eq_true.2 fun x hx => ?_
 cases e : (b ++ c).contains x with
 | false => rfl
 | true =>
  have : x ∈ b ++ c := by simpa using e
  rcases List.mem_append.1 this with hb | hc
  ·exact absurd hb (dM h x hx)
  ·exact absurd hc (dM k x hx)
theorem swap {p q : CO × Bool} (hc : vI p q = true) {σ : List AV} {h : AH} {K : List AV → AH → Prop}
  (H : WgD P S p.2 p.1 σ h (fun σ1 h1 => WgD P S q.2 q.1 σ1 h1 K)) : WgD P S q.2 q.1 σ h (fun σ1 h1 => WgD P S p.2 p.1 σ1 h1 K) := by
 have hc0 := hc
 simp only [vI, Bool.and_eq_true] at hc
 obtain ⟨⟨c1, c2⟩, c3⟩ := hc
 obtain ⟨c1a, c1b⟩ := yz c1
 have pq : ∀ {o : COp}, isP o = true → isQ o = false ∧ isL o = false ∧ fk o = true := fun {o} ho => by cases o <;> simp [isP] at ho <;> exact ⟨rfl, rfl, rfl⟩
 by_cases hp : isP p.1.op = true
 ·obtain ⟨p1, p2, p3⟩ := pq hp
  by_cases hq : fk q.1.op = true
  ·exfalso
   have hqq : isQ q.1.op = false ∧ isL q.1.op = false := by cases e : q.1.op <;> simp [e, fk] at hq <;> exact ⟨rfl, rfl⟩
   simp [p1, p2, p3, hq, hqq.1, hqq.2] at c3
  ·exact (I1 hp (by simpa using hq) c1 c2).1 H
 ·by_cases hq : isP q.1.op = true
  ·obtain ⟨q1, q2, q3⟩ := pq hq
   by_cases hpc : fk p.1.op = true
   ·exfalso
    have hpp : isQ p.1.op = false ∧ isL p.1.op = false := by cases e : p.1.op <;> simp [e, fk] at hpc <;> exact ⟨rfl, rfl⟩
    simp [q1, q2, q3, hpc, hpp.1, hpp.2, hp] at c3
   ·exact (I1 hq (by simpa using hpc) (yA c2 (vJ c1b)) c1a).2 H
  ·exact Kx (by simpa using hp) (by simpa using hq) hc0 H
end
end Go.Proofs.YtibchilpaaiecaaGreatDoor.M
