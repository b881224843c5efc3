/- Equations of the function 'run' and of the code's limit, for simp: the part looked at first, what follows is never walked into. -/
import Derived.Test.YtibchilpaaiecaaGreatDoorM15
set_option linter.all false
namespace Go.Proofs.YtibchilpaaiecaaGreatDoor.M
universe u
open Go.RowKit
def kb (k : IntKind) : Nat := k.bits
theorem ab {p : Prop} (h : p) : p := h
def nrm (o : Option (List AV × AH)) : Option St := match o with | some (σ, h) => some (.normal, σ, h) | none => none
def bnd (o : Option St) (k : Ex → List AV → AH → Option St) : Option St := match o with | some (e, σ, h) => k e σ h | none => none
def bnd2 (o : Option (List AV × AH)) (k : List AV → AH → Option (List AV × AH)) : Option (List AV × AH) := match o with | some (σ, h) => k σ h | none => none
noncomputable def seqK (T : Tbl) (b : CC) (e : Ex) (σ : List AV) (h : AH) : Option St := match e with | .normal => den T b σ h | .exit i => some (.exit i, σ, h) | .ret => some (.ret, σ, h)
def blkK (id : Nat) (e : Ex) (σ : List AV) (h : AH) : Option St := match e with | .normal => some (.normal, σ, h) | .exit j => if j = id then some (.normal, σ, h) else some (.exit j, σ, h) | .ret => some (.ret, σ, h)
noncomputable def dop (T : Tbl) (op : COp) (d : Option Nat) (σ : List AV) (h : AH) : Option (List AV × AH) := xeff T (den T) op d σ h
noncomputable def dops (T : Tbl) (l : List CO) (σ : List AV) (h : AH) : Option (List AV × AH) := xops T (den T) l σ h
noncomputable def dgd (T : Tbl) (v : Option AV) (w : Bool) (op : COp) (d : Option Nat) (σ : List AV) (h : AH) : Option (List AV × AH) :=
 match v with | some (.bool b) => if b == w then dop T op d σ h else some (putA σ d aa, h) | some .any => none | _ => some (putA σ d aa, h)
noncomputable def dif_ (T : Tbl) (v : AV) (x y : CC) (σ : List AV) (h : AH) : Option St := match v with | .bool true => den T x σ h | .bool false => den T y σ h | _ => none
def vput (σ : List AV) (d : Option Nat) (h : AH) (o : Option AV) : Option (List AV × AH) := match o with | some v => some (putA σ d v, h) | none => none
def cput (σ : List AV) (d : Option Nat) (o : Option (AV × AH)) : Option (List AV × AH) := match o with | some (v, h) => some (putA σ d v, h) | none => none
def sput (σ : List AV) (o : Option AH) : Option (List AV × AH) := match o with | some h => some (σ, h) | none => none
def eput (σ : List AV) (t : Nat) (d : Option Nat) (h : AH) (o : Option (AV × List AV)) : Option (List AV × AH) := match o with | some (c, cs) => some (putA (σ.set t (.tup cs)) d c, h) | none => none
def exV (i : Nat) (v : AV) : Option (AV × List AV) := match v with | .tup cs => (match cs[i]? with | some c => some (c, cs.set i c.sh) | none => none) | _ => none
def exC (cs : List AV) (i : Nat) (o : Option AV) : Option (AV × List AV) := match o with | some c => some (c, cs.set i c.sh) | none => none
def hput (h : AH) (id : Nat) (o : Option Bx) : Option AH := match o with | some b => some (h.set id b) | none => none
noncomputable def fin1 (o : Option St) (rs : List RV) (h : AH) : Option (AV × AH) := o.bind (finF rs h)
noncomputable def fin2 (o : Option (List AV)) (h h' : AH) : Option (AV × AH) := match o with | some vs => gc h (oneOf vs) h' | none => none
noncomputable def gdO (T : Tbl) (o : CO) (σ : List AV) (h : AH) : Option (List AV × AH) := match o.guard with | none => dop T o.op o.dst σ h | some (s, w) => dgd T σ[s]? w o.op o.dst σ h
def qP (v : AV) (o : Option (List AV)) : Option (List AV) := match o with | some vs => some (v :: vs) | none => none
def rebind (rs : List RV) (σ : List AV) (h : AH) (o : Option AV) : Option (List AV) := match o with | some v => qP v (retV h rs σ) | none => none
section
variable {T : Tbl} {σ σ' : List AV} {h h' : AH} {Q : Ex → List AV → AH → Option St} {k : List AV → AH → Option (List AV × AH)} {d : Option Nat} {x y : Opd} {e : Ex}
theorem I7 : nrm (some (σ, h)) = some (.normal, σ, h) := rfl
theorem I8 : bnd (some (e, σ, h)) Q = Q e σ h := rfl
theorem F1 : bnd2 (some (σ, h)) k = k σ h := rfl
theorem sq_n {b : CC} : seqK T b .normal σ h = den T b σ h := rfl
theorem sq_e {b : CC} {i : Nat} : seqK T b (.exit i) σ h = some (.exit i, σ, h) := rfl
theorem sq_r {b : CC} : seqK T b .ret σ h = some (.ret, σ, h) := rfl
theorem bk_n {i : Nat} : blkK i .normal σ h = some (.normal, σ, h) := rfl
theorem bk_e {i : Nat} : blkK i (.exit i) σ h = some (.normal, σ, h) := by simp [blkK]
theorem bk_r {i : Nat} : blkK i .ret σ h = some (.ret, σ, h) := rfl
theorem I9 {v : AV} : vput σ d h (some v) = some (putA σ d v, h) := rfl
theorem Ja {v : AV} : cput σ d (some (v, h)) = some (putA σ d v, h) := rfl
theorem Jb : sput σ (some h) = some (σ, h) := rfl
theorem Jc {t : Nat} {c : AV} {cs : List AV} : eput σ t d h (some (c, cs)) = some (putA (σ.set t (.tup cs)) d c, h) := rfl
theorem Jd {i : Nat} {cs : List AV} : exV i (.tup cs) = exC cs i cs[i]? := by simp only [exV, exC]
theorem F2 {i : Nat} {cs : List AV} {c : AV} : exC cs i (some c) = some (c, cs.set i c.sh) := rfl
theorem Je {id : Nat} {b : Bx} : hput h id (some b) = some (h.set id b) := rfl
theorem Kz : dD [] σ = σ := rfl
theorem Jf {i : Nat} {ws : List Nat} : dD (i :: ws) σ = dD ws (σ.set i .any) := rfl
theorem Jg : den T .skip σ h = some (.normal, σ, h) := by rw [lP]; rfl
theorem CX {ops : List CO} : den T (.region ops) σ h = nrm (dops T ops σ h) := by
 rw [lP]; simp only [step, dops]; cases xops T (den T) ops σ h <;> rfl
theorem iW {a b : CC} : den T (.seq a b) σ h = bnd (den T a σ h) (seqK T b) := by
 rw [lP]; simp only [step]
 cases den T a σ h with
 | none => rfl
 | some r => obtain ⟨e, σ1, h1⟩ := r; cases e <;> rfl
theorem Jh {c : Opd} {x y : CC} : den T (.cond c x y) σ h = dif_ T (ag σ c) x y σ h := by
 rw [lP]; simp only [step, dif_]
 cases ag σ c <;> rfl
theorem F3 {i : Nat} {c : CC} : den T (.block i c) σ h = bnd (den T c σ h) (blkK i) := by
 rw [lP]; simp only [step]
 cases den T c σ h with
 | none => rfl
 | some r =>
  obtain ⟨e, σ1, h1⟩ := r
  cases e <;> simp only [Option.map_some, outB, bnd, blkK]
  split <;> rfl
theorem zT {c : CC} : den T (.loop c) σ h = bnd (den T c σ h) (seqK T (.loop c)) := by
 rw [lP]; simp only [step]
 cases den T c σ h with
 | none => rfl
 | some r => obtain ⟨e, σ1, h1⟩ := r; cases e <;> rfl
theorem Ji {i : Nat} : den T (.exit i) σ h = some (.exit i, σ, h) := by rw [lP]; rfl
theorem Jj : den T .ret σ h = some (.ret, σ, h) := by rw [lP]; rfl
theorem gi {ws : List Nat} {c : CC} : den T (.kill ws c) σ h = den T c (dD ws σ) h := by rw [lP]; rfl
theorem CY {g : Opd} {p : Nat} {ca cb : CC} : den T (.rsplit g p ca cb) σ h = rsS T (den T ca) (den T cb) p σ h (ag σ g) := by rw [lP]; rfl
@[congr] theorem LO {ra rb : List AV → AH → Option St} {p : Nat} {v v' : AV} (h1 : v = v') : rsS T ra rb p σ h v = rsS T ra rb p σ h v' := by rw [h1]
theorem if_t {x y : CC} : dif_ T (.bool true) x y σ h = den T x σ h := rfl
theorem if_f {x y : CC} : dif_ T (.bool false) x y σ h = den T y σ h := rfl
theorem KA : dops T [] σ h = some (σ, h) := rfl
theorem wV {o : CO} : xeff T (den T) (aW o σ) o.dst σ h = gdO T o σ h := by
 obtain ⟨dd, op, g⟩ := o
 simp only [gdO, aW]
 cases g with
 | none => rfl
 | some sw =>
  obtain ⟨s, w⟩ := sw
  simp only [gV, dgd]
  have hm : ∀ d', xeff T (den T) (.mov (.con aa)) d' σ h = some (putA σ d' aa, h) := fun d' => by
   simp only [xeff, bZ, xop, Option.map_some, aE]; rfl
  cases σ[s]? with
  | none => exact hm _
  | some v =>
   cases v
   case bool b => cases b <;> cases w <;> first | rfl | exact hm _
   case any => rfl
   all_goals exact hm _
theorem Jk {op : COp} {r : List CO} : dops T (⟨d, op, none⟩ :: r) σ h = bnd2 (dop T op d σ h) (dops T r) := by
 simp only [dops, xops]
 rw [show xeff T (den T) (aW ⟨d, op, none⟩ σ) d σ h = dop T op d σ h from wV (o := ⟨d, op, none⟩)]
 cases dop T op d σ h <;> rfl
theorem p_gd {op : COp} {r : List CO} {s : Nat} {w : Bool} : dops T (⟨d, op, some (s, w)⟩ :: r) σ h = bnd2 (dgd T σ[s]? w op d σ h) (dops T r) := by
 simp only [dops, xops]
 rw [show xeff T (den T) (aW ⟨d, op, some (s, w)⟩ σ) d σ h = dgd T σ[s]? w op d σ h from wV (o := ⟨d, op, some (s, w)⟩)]
 cases dgd T σ[s]? w op d σ h <;> rfl
theorem KB {op : COp} : dgd T (some (.bool true)) true op d σ h = dop T op d σ h := rfl
theorem KC {op : COp} : dgd T (some (.bool false)) true op d σ h = some (putA σ d aa, h) := rfl
theorem KD {op : COp} : dgd T (some (.bool true)) false op d σ h = some (putA σ d aa, h) := rfl
theorem KE {op : COp} : dgd T (some (.bool false)) false op d σ h = dop T op d σ h := rfl
theorem Jl {op : COp} {w : Bool} : dgd T (some aa) w op d σ h = some (putA σ d aa, h) := rfl
@[congr] theorem LP {o o' : Option St} (h1 : o = o') : bnd o Q = bnd o' Q := by rw [h1]
@[congr] theorem LA {o o' : Option (List AV × AH)} (h1 : o = o') : bnd2 o k = bnd2 o' k := by rw [h1]
@[congr] theorem LQ {c : CC} (h1 : σ = σ') (h2 : h = h') : den T c σ h = den T c σ' h' := by rw [h1, h2]
@[congr] theorem LR {v v' : AV} {x y : CC} (h1 : v = v') : dif_ T v x y σ h = dif_ T v' x y σ h := by rw [h1]
@[congr] theorem LS {v v' : Option AV} {w : Bool} {op : COp} (h1 : v = v') : dgd T v w op d σ h = dgd T v' w op d σ h := by rw [h1]
@[congr] theorem LB {o o' : Option AV} (h1 : o = o') : vput σ d h o = vput σ d h o' := by rw [h1]
@[congr] theorem LC {o o' : Option (AV × AH)} (h1 : o = o') : cput σ d o = cput σ d o' := by rw [h1]
@[congr] theorem LD {o o' : Option AH} (h1 : o = o') : sput σ o = sput σ o' := by rw [h1]
@[congr] theorem LF {t : Nat} {o o' : Option (AV × List AV)} (h1 : o = o') : eput σ t d h o = eput σ t d h o' := by rw [h1]
@[congr] theorem LG {id : Nat} {o o' : Option Bx} (h1 : o = o') : hput h id o = hput h id o' := by rw [h1]
@[congr] theorem LU {cs : List AV} {i : Nat} {o o' : Option AV} (h1 : o = o') : exC cs i o = exC cs i o' := by rw [h1]
@[congr] theorem LH {rs : List RV} {o o' : Option St} (h1 : o = o') : fin1 o rs h = fin1 o' rs h := by rw [h1]
@[congr] theorem LI {o o' : Option (List AV)} (h1 : o = o') : fin2 o h h' = fin2 o' h h' := by rw [h1]
@[congr] theorem LV {f : FuncId} {a a' : List AV} (h1 : a = a') (h2 : h = h') : run T f a h = run T f a' h' := by rw [h1, h2]
variable {t : Nat}
theorem CZ {i : Nat} {v : AV} : putA σ (some i) v = σ.set i v := rfl
theorem zU : ag σ (.tmp t) = σ.getD t aa := rfl
theorem Jm {v : AV} : ag σ (.con v) = v := rfl
theorem F4 {a : AV} {l : List AV} : (a :: l).getD 0 aa = a := rfl
theorem F5 {a : AV} {l : List AV} {n : Nat} : (a :: l).getD (n + 1) aa = l.getD n aa := rfl
theorem dq {op : COp} {f : Option AV} (hc : bZ op (ag σ) = none) (hx : xop op d (ag σ) h = val d h f) : dop T op d σ h = vput σ d h f := by
 simp only [dop, xeff, hc, hx, val]
 cases f with
 | none => rfl
 | some v => simp only [Option.map_some, vput, aE]
theorem KF : dop T (.mov x) d σ h = some (putA σ d (ag σ x).sh, h) := by simp only [dop, xeff, bZ, xop, Option.map_some, aE]
theorem C0 : dop T (.take (.tmp t)) d σ h = some (putA (σ.set t (σ.getD t aa).sh) d (σ.getD t aa), h) := by
 simp only [dop, xeff, bZ, xop, Option.map_some, dL, aE]; rfl
theorem C1 {v : AV} : dop T (.take (.con v)) d σ h = some (putA σ d v, h) := by
 simp only [dop, xeff, bZ, xop, Option.map_some, dL, aE]; rfl
theorem Jn {c : Opd} : dop T (.pick c x y) d σ h = vput σ d h (yq (ag σ c) (ag σ x) (ag σ y)) := dq rfl rfl
theorem F6 {cs : List AV} : dop T (.alloc cs) d σ h = some (putA σ d (.box h.length 0), h ++ [.cells cs]) := by simp only [dop, xeff, bZ, xop, Option.map_some, aE]
theorem F7 (ho : aM (σ.getD t aa).cells = true) : dop T (.box (.tmp t)) d σ h = some (putA (σ.set t (σ.getD t aa).sh) d (.box h.length 0), h ++ [.cells (σ.getD t aa).cells]) := by
 simp only [dop, xeff, bZ, xop]
 rw [if_pos (by exact ho)]
 simp only [Option.map_some, dL, aE]; rfl
theorem Jo {m : Option Nat} : dop T (.load m x) d σ h = vput σ d h (ld m h (ag σ x)) := dq rfl rfl
def tput (σ : List AV) (d : Option Nat) (h : AH) (id : Nat) (o : Option (AV × Bx)) : Option (List AV × AH) := match o with | some (c, b) => some (putA σ d c, h.set id b) | none => none
def ltk (σ : List AV) (d : Option Nat) (h : AH) (v : AV) : Option (List AV × AH) := match v with | .box id off => tput σ d h id (nO off h[id]?) | _ => none
def ltkC (cs : List AV) (off : Nat) (o : Option AV) : Option (AV × Bx) := match o with | some c => some (c, .cells (cs.set off c.sh)) | none => none
theorem F8 : dop T (.ltake x) d σ h = ltk σ d h (ag σ x) := by
 simp only [dop, xeff, bZ, xop, ltk]
 cases ag σ x <;> simp only [wB, Option.map_none]
 rename_i id off
 cases nO off h[id]? with
 | none => rfl
 | some r => obtain ⟨c, b⟩ := r; simp only [tput, Option.map_some, aE]
theorem F9 {id off : Nat} : ltk σ d h (.box id off) = tput σ d h id (nO off h[id]?) := rfl
theorem C2 {cs : List AV} {off : Nat} : nO off (some (.cells cs)) = ltkC cs off cs[off]? := by simp only [nO, ltkC]; cases cs[off]? <;> rfl
theorem C3 {cs : List AV} {off : Nat} {c : AV} : ltkC cs off (some c) = some (c, .cells (cs.set off c.sh)) := rfl
theorem Ga {id : Nat} {c : AV} {b : Bx} : tput σ d h id (some (c, b)) = some (putA σ d c, h.set id b) := rfl
@[congr] theorem LW {v v' : AV} (h1 : v = v') : ltk σ d h v = ltk σ d h v' := by rw [h1]
@[congr] theorem LJ {id : Nat} {o o' : Option (AV × Bx)} (h1 : o = o') : tput σ d h id o = tput σ d h id o' := by rw [h1]
@[congr] theorem LK {cs : List AV} {off : Nat} {o o' : Option AV} (h1 : o = o') : ltkC cs off o = ltkC cs off o' := by rw [h1]
theorem Jp : dop T (.rbox x) d σ h = vput σ d h (yr (ag σ x)) := dq rfl rfl
theorem Gb {v : AV} (ho : aM v.cells = true) : yr v = some (.ref (shL v.cells)) := by unfold yr; rw [if_pos ho]
theorem zV {N : Nat} : dop T (.store N x (.tmp t)) none σ h = sput (σ.set t (σ.getD t aa).sh) (lN N h (σ.getD t aa) (ag σ x)) := by
 simp only [dop, xeff, bZ, xop, if_true]
 show Option.map _ (Option.map _ (lN N h (σ.getD t aa) (ag σ x))) = _
 cases lN N h (σ.getD t aa) (ag σ x) <;> rfl
theorem zW {N : Nat} {v : AV} : dop T (.store N x (.con v)) none σ h = sput σ (lN N h v (ag σ x)) := by
 simp only [dop, xeff, bZ, xop, if_true]
 show Option.map _ (Option.map _ (lN N h v (ag σ x))) = _
 cases lN N h v (ag σ x) <;> rfl
theorem Gc : dop T (.nilck x) d σ h = vput σ d h (oS (ag σ x)) := dq rfl rfl
theorem KG {op : BinOp} : dop T (.bin op x y) d σ h = vput σ d h (binV op (ag σ x) (ag σ y)) := dq rfl rfl
theorem o_un {op : UnOp} : dop T (.un op x) d σ h = vput σ d h (unV op (ag σ x)) := dq rfl rfl
theorem Jq {k : IntKind} : dop T (.cInt k x) d σ h = vput σ d h (zx k (ag σ x)) := dq rfl rfl
theorem vM : dop T (.cBytesStr x) d σ h = vput σ d h (oT (ag σ x)) := dq rfl rfl
theorem vN : dop T (.cStrBytes x) d σ h = vput σ d h (mA (ag σ x)) := dq rfl rfl
theorem Gd {o : Nat} : dop T (.faddr o x) d σ h = vput σ d h (qH o (ag σ x)) := dq rfl rfl
theorem Ge {S : Nat} {ar : Option Nat} : dop T (.iaddr S ar x y) d σ h = vput σ d h (mB S ar (ag σ x) (ag σ y)) := dq rfl rfl
theorem Jr : dop T (.idxs x y) d σ h = vput σ d h (zy (ag σ x) (ag σ y)) := dq rfl rfl
theorem Js : dop T (.lens x) d σ h = vput σ d h (CJ (ag σ x)) := dq rfl rfl
theorem Jt : dop T (.lenl x) d σ h = vput σ d h (yt (ag σ x)) := dq rfl rfl
theorem Ju {i : TypeId} : dop T (.mkif i x) d σ h = some (putA σ d (.iface i (ag σ x).sh), h) := by simp only [dop, xeff, bZ, xop, Option.map_some, aE]
theorem Jv {i : TypeId} {z : AV} : dop T (.tass i z x) d σ h = vput σ d h (vA i z (ag σ x)) := dq rfl rfl
theorem Jw {f : Fn} {l1 l2 : List Opd} : dop T (.mkfn f l1 l2) d σ h = some (putA σ d (.fn f (shL (l1.map (ag σ))) (shL (l2.map (ag σ)))), h) := by simp only [dop, xeff, bZ, xop, Option.map_some, aE]
theorem zX {i : Nat} : dop T (.extract t i) d σ h = eput σ t d h (exV i (σ.getD t aa)) := by
 simp only [dop, xeff, bZ, xop, zU]
 cases σ.getD t aa <;> simp only [oe, exV] <;> try rfl
 rename_i cs
 cases cs[i]? <;> simp [eput, putL, aE]
def bndI : AV → Option (Option Int) | .int _ i => some (some i) | _ => none
theorem Gf : bndE (ag σ) none = some none := rfl
theorem Gg : bndE (ag σ) (some x) = bndI (ag σ x) := by simp only [bndE, bndI]; cases ag σ x <;> rfl
theorem C4 {k : IntKind} {i : Int} : bndI (.int k i) = some (some i) := rfl
theorem Gi {S : Option Nat} {lo hi mx : Option Opd} : dop T (.slice S x lo hi mx) d σ h = vput σ d h (cV S (ag σ x) (bndE (ag σ) lo) (bndE (ag σ) hi) (bndE (ag σ) mx)) := dq rfl rfl
theorem yH {S bytes : Nat} {str : Bool} : dop T (.append S bytes str (.tmp t) y) d σ h = vput (σ.set t (σ.getD t aa).sh) d h (appV S bytes (σ.getD t aa) (rF str (ag σ y))) := by
 simp only [dop, xeff, bZ, xop, zU]
 cases appV S bytes (σ.getD t aa) (rF str (ag σ y)) with
 | none => rfl
 | some v => simp only [Option.map_some, dL, aE]; rfl
theorem Gj {z : List AV} {ps : List (Nat × Nat × Opd)} : dop T (.build z ps) d σ h = vput σ d h (qI z (shP (ag σ) ps)) := dq rfl rfl
theorem C5 {S : Nat} {tok : Bool} {xs : List Opd} : dop T (.bslice S tok xs) d σ h = vput σ d h (oU S tok (xs.map fun x => (ag σ x).sh)) := dq rfl rfl
theorem KH {neg : Bool} : dop T (.eqb neg x y) d σ h = vput σ d h (eqbV neg (ag σ x) (ag σ y)) := dq rfl rfl
theorem Gk {nk : NK} {neg : Bool} : dop T (.isnil nk neg x) d σ h = vput σ d h (qJ nk neg (ag σ x)) := dq rfl rfl
theorem KI {neg : Bool} {idx : List (Nat × TypeDesc)} : dop T (.eqs neg idx x y) d σ h = vput σ d h (eqsV neg idx (ag σ x) (ag σ y)) := dq rfl rfl
theorem KJ {z : List AV} : dop T (.clr z x) none σ h = sput σ (clrV z h (ag σ x)) := by
 simp only [dop, xeff, bZ, xop, if_true]
 cases clrV z h (ag σ x) <;> rfl
theorem Jy {f : FuncId} {args : List Opd} : dop T (.call f args) d σ h = cput σ d (run T f (shL (args.map (ag σ))) h) := by
 simp only [dop, xeff, bZ, run]
 cases ji T (den T) f (shL (args.map (ag σ))) h <;> rfl
def fnv (o : AV) : Option (FuncId × List AV × List AV) := match o with | .fn (.func f) a b => some (f, a, b) | _ => none
noncomputable def runv (T : Tbl) (o : AV) (args : List AV) (h : AH) : Option (AV × AH) := match o with | .fn (.func f) a b => run T f (shL (a ++ args ++ b)) h | _ => none
def pput (σ : List AV) (d : Option Nat) (h : AH) (o : Option (AV × AH)) : Option (List AV × AH) := match o with | some (r, []) => some (putA σ d r, h) | _ => none
noncomputable def pcl (T : Tbl) (f : FuncId) (args : List AV) (σ : List AV) (d : Option Nat) (h : AH) : Option (List AV × AH) := if mrL args = 0 then pput σ d h (run T f args []) else none
theorem Gm {f : FuncId} {args : List Opd} : dop T (.pcall f args) d σ h = pcl T f (shL (args.map (ag σ))) σ d h := by
 simp only [dop, xeff, bZ, run, pcl]
 split
 ·cases ji T (den T) f (shL (args.map (ag σ))) [] with
  | none => rfl
  | some r => obtain ⟨v, h'⟩ := r; cases h' <;> rfl
 ·rfl
theorem Jz {f : FuncId} {args : List AV} (hm : mrL args = 0) : pcl T f args σ d h = pput σ d h (run T f args []) := by simp only [pcl]; rw [if_pos hm]
@[congr] theorem LX {f : FuncId} {args args' : List AV} (h1 : args = args') : pcl T f args σ d h = pcl T f args' σ d h := by rw [h1]
theorem Gn {v : AV} : pput σ d h (some (v, [])) = some (putA σ d v, h) := rfl
@[congr] theorem LL {o o' : Option (AV × AH)} (h1 : o = o') : pput σ d h o = pput σ d h o' := by rw [h1]
theorem Gp {args : List Opd} : dop T (.callv x args) d σ h = cput σ d (runv T (ag σ x) (args.map (ag σ)) h) := by
 simp only [dop, xeff, bZ, runv, run]
 cases ag σ x <;> simp only [xop, Option.map_none, cput]
 rename_i f a b
 cases f <;> simp only [xop, Option.map_none, cput]
 cases ji T (den T) _ _ h <;> rfl
theorem KL {f : FuncId} {a b args : List AV} : runv T (.fn (.func f) a b) args h = run T f (shL (a ++ args ++ b)) h := rfl
@[congr] theorem LM {o o' : AV} {a a' : List AV} (h1 : o = o') (h2 : a = a') : runv T o a h = runv T o' a' h := by rw [h1, h2]
theorem af {f : FuncId} {cf : CFn} {args : List AV} (hT : T f = some (.code cf)) : run T f args h = fin1 (den T cf.body (args ++ List.replicate (cf.ntmps - args.length) aa) h) cf.res h := by
 simp only [run, ji, hT, fin1]
theorem JA {rs : List RV} {h0 : AH} : fin1 (some (.normal, σ, h)) rs h0 = fin2 (retV h rs σ) h0 h := by
 simp only [fin1, Option.bind_some, finF, fin2]; cases retV h rs σ <;> rfl
theorem KM {rs : List RV} {h0 : AH} : fin1 (some (.ret, σ, h)) rs h0 = fin2 (retV h rs σ) h0 h := by
 simp only [fin1, Option.bind_some, finF, fin2]; cases retV h rs σ <;> rfl
theorem Gq {vs : List AV} {h0 : AH} : fin2 (some vs) h0 h = gc h0 (oneOf vs) h := rfl
theorem KN {v : AV} : oneOf [v] = v := rfl
theorem KO : oneOf [] = .tup [] := rfl
theorem KP {v w : AV} {vs : List AV} : oneOf (v :: w :: vs) = .tup (v :: w :: vs) := rfl
theorem KQ : retV h [] σ = some [] := rfl
theorem KR {rs : List RV} : retV h (.tmp t :: rs) σ = qP (σ.getD t aa) (retV h rs (σ.set t (σ.getD t aa).sh)) := by
 simp only [retV, qP]; cases retV h rs _ <;> rfl
theorem JB {rs : List RV} {m : Option Nat} : retV h (.cell t m :: rs) σ = rebind rs σ h (ld m h (σ.getD t aa)) := by
 simp only [retV, rebind]
 cases ld m h (σ.getD t aa) with
 | none => rfl
 | some v => simp only [Option.bind_some, qP]; cases retV h rs σ <;> rfl
theorem Gr {v : AV} {vs : List AV} : qP v (some vs) = some (v :: vs) := rfl
theorem Gs {v : AV} {rs : List RV} : rebind rs σ h (some v) = qP v (retV h rs σ) := rfl
@[congr] theorem Kt {rs : List RV} {o o' : Option AV} (h1 : o = o') : rebind rs σ h o = rebind rs σ h o' := by rw [h1]
@[congr] theorem LN {rs : List RV} (h1 : σ = σ') : retV h rs σ = retV h rs σ' := by rw [h1]
def gcS (h h0 : AH) : Prop := h0.length = h.length ∧ ∀ i, i < h.length → h0[i]? = h[i]? ∨ ∃ b, h0[i]? = some b ∧ mrB b ≤ h.length
theorem wW : gcS h h := ⟨rfl, fun i _ => .inl rfl⟩
theorem wX {r : AV} (hl : h'.length ≤ h.length) : gc h r h' = some (r, h') := by
 unfold gc; rw [if_pos (.inl hl)]
theorem Gt {r : AV} : gc h r h = some (r, h) := wX (Nat.le_refl _)
theorem Gu {r : AV} {i : Nat} {b : Bx} : gc h r (h.set i b) = some (r, h.set i b) := wX (by simp)
theorem zY {r : AV} (hl : h.length < r.mr) : gc h r h' = some (r, h') := by
 unfold gc; rw [if_pos (.inr hl)]
theorem zZ {r : AV} {h0 js : AH} (hm : r.mr ≤ h.length) (hs : gcS h h0) : gc h r (h0 ++ js) = some (r, h0) := by
 have hl := hs.1
 by_cases hj : js = []
 ·subst hj; rw [List.append_nil]; exact wX (by omega)
 ·have : 0 < js.length := List.length_pos_iff.2 hj
  unfold gc
  rw [if_neg (by simp; omega), if_pos]
  ·rw [List.take_append_of_le_length (by omega), List.take_of_length_le (by omega)]
  ·intro i hi
   rw [List.getElem?_append_left (by omega)]
   exact hs.2 i hi
theorem C6 {r : AV} {js : AH} (hm : r.mr = 0) : gc h r (h ++ js) = some (r, h) := zZ (by omega) wW
theorem JC {r : AV} (hm : r.mr = 0) : gc [] r h' = some (r, []) := by
 have := zZ (h := []) (h0 := []) (js := h') (r := r) (by omega) wW
 simpa using this
end
section
variable {k k' : IntKind} {a b : Int} {u v : AV} {h : AH}
theorem JD : yq (.bool true) u v = some u.sh := rfl
theorem JE : yq (.bool false) u v = some v.sh := rfl
theorem JF : zx k (.int k' a) = some (.int k (k.wrap a)) := rfl
theorem yI {s : ByteArray} : mA (.str s) = some (.sl .sh (s.data.toList.map encB)) := rfl
theorem tX {m : Md} {l : List UInt8} : oT (.sl m (l.map encB)) = some (.str ⟨l.toArray⟩) := by simp only [oT, wI, Option.map_some]
theorem Gv {o : Nat} {cs : List AV} : qH o (.ref cs) = some (.ref (cs.drop o)) := rfl
theorem Gw {o i off : Nat} : qH o (.box i off) = some (.box i (off + o)) := rfl
theorem JG {s : ByteArray} : CJ (.str s) = some (.int .i64 s.size) := rfl
theorem JH {m : Md} {es : List (List AV)} : yt (.sl m es) = some (.int .i64 es.length) := rfl
theorem JI {i o n : Nat} {c : Option Nat} : yt (.bs i o n c) = some (.int .i64 n) := rfl
theorem Gx {i o : Nat} : oS (.box i o) = some (.box i o) := rfl
theorem Gy {cs : List AV} : oS (.ref cs) = some (.ref cs) := rfl
theorem KS {neg p q : Bool} : eqbV neg (.bool p) (.bool q) = some (.bool ((p == q) != neg)) := rfl
theorem C7 {neg : Bool} : qJ .ifc neg .nili = some (.bool (true != neg)) := rfl
theorem C8 {neg : Bool} {t : TypeId} {x : AV} : qJ .ifc neg (.iface t x) = some (.bool (false != neg)) := rfl
theorem Gz (hb : 0 ≤ b) : binV .shr (.int k a) (.int k' b) = some (.int k (a.fdiv (2 ^ (min b.toNat (kb k))))) := by simp only [binV]; rw [if_pos hb]; rfl
theorem GA : binV .add (.int k a) (.int k b) = some (.int k (k.wrap (a + b))) := by simp only [binV, if_true]
theorem GB : binV .sub (.int k a) (.int k b) = some (.int k (k.wrap (a - b))) := by simp only [binV, if_true]
theorem GC : binV .mul (.int k a) (.int k b) = some (.int k (k.wrap (a * b))) := by simp only [binV, if_true]
theorem GD (hb : b ≠ 0) : binV .quo (.int k a) (.int k b) = some (.int k (k.wrap (a.tdiv b))) := by simp only [binV]; rw [if_pos ⟨trivial, hb⟩]
theorem GF (hb : b ≠ 0) : binV .rem (.int k a) (.int k b) = some (.int k (a.tmod b)) := by simp only [binV]; rw [if_pos ⟨trivial, hb⟩]
theorem GG : binV .and (.int k a) (.int k b) = some (.int k (k.wrap (BitVec.ofInt (kb k) a &&& BitVec.ofInt (kb k) b).toNat)) := by simp only [binV, if_true]; rfl
theorem GH : binV .eql (.int k a) (.int k b) = some (.bool (a == b)) := by simp only [binV, if_true]
theorem GI : binV .neq (.int k a) (.int k b) = some (.bool (a != b)) := by simp only [binV, if_true]
theorem GJ : binV .lss (.int k a) (.int k b) = some (.bool (decide (a < b))) := by simp only [binV, if_true]
theorem GK : binV .leq (.int k a) (.int k b) = some (.bool (decide (a ≤ b))) := by simp only [binV, if_true]
theorem GL : binV .gtr (.int k a) (.int k b) = some (.bool (decide (a > b))) := by simp only [binV, if_true]
theorem GM : binV .geq (.int k a) (.int k b) = some (.bool (decide (a ≥ b))) := by simp only [binV, if_true]
variable {s t : ByteArray}
theorem C9 (hl : ((s.size + t.size : Nat) : Int) ≤ 9223372036854775807) : binV .add (.str s) (.str t) = some (.str (s ++ t)) := by simp only [binV]; rw [if_pos hl]
theorem Da : binV .eql (.str s) (.str t) = some (.bool (s.toList == t.toList)) := rfl
theorem Db : binV .neq (.str s) (.str t) = some (.bool (!(s.toList == t.toList))) := rfl
theorem Dc : binV .lss (.str s) (.str t) = some (.bool (Op.bytesLess s.toList t.toList)) := rfl
theorem Dd : binV .gtr (.str s) (.str t) = some (.bool (!(Op.bytesLess s.toList t.toList || s.toList == t.toList))) := rfl
theorem JJ {p : Bool} : unV .not (.bool p) = some (.bool (!p)) := rfl
theorem JK : unV .neg (.int k a) = some (.int k (k.wrap (0 - a))) := rfl
variable {id off S N n : Nat} {cs : List AV} {i : Int} {es : List (List AV)} {m : Md}
theorem De {mm : Option Nat} : ld mm h (.box id off) = tF mm off h[id]? := rfl
def GN (o : Option AV) : Option AV := match o with | some c => some c.sh | none => none
theorem GO : tF none off (some (.cells cs)) = GN cs[off]? := by simp only [tF, GN]; cases cs[off]? <;> rfl
theorem Df {c : AV} : GN (some c) = some c.sh := rfl
theorem GP (hl : Nat.ble (off + n) cs.length = true) : tF (some n) off (some (.cells cs)) = some (.agg (shL ((cs.drop off).take n))) := by simp only [tF]; rw [if_pos (Nat.le_of_ble_eq_true hl)]
theorem Dg : ld none h (.ref cs) = CI cs := rfl
theorem head_cons {c : AV} : CI (c :: cs) = some c := rfl
theorem z6 (hl : Nat.ble n cs.length = true) : ld (some n) h (.ref cs) = some (.agg (cs.take n)) := by simp only [ld]; rw [if_pos (Nat.le_of_ble_eq_true hl)]
theorem GQ {e : List AV} (hl : e.length = S) : elemV S (some e) = some (.ref e) := by simp only [elemV]; rw [if_pos hl]
theorem JL (h0 : 0 ≤ i) : mB S none (.sl m es) (.int k i) = elemV S es[i.toNat]? := by simp only [mB]; rw [if_pos ⟨trivial, h0⟩]
theorem KT {len : Nat} {c : Option Nat} (h0 : 0 ≤ i) (h1 : i < len) : mB S none (.bs id off len c) (.int k i) = some (.box id (off + i.toNat * S)) := by simp only [mB]; rw [if_pos ⟨trivial, h0, h1⟩]
variable {lo hi M : Int}
theorem qQ {len : Nat} {cap : Option Nat} {l r : Option Int} (h0 : 0 ≤ l.getD 0) (h1 : l.getD 0 ≤ r.getD len) (h2 : r.getD len ≤ len) :
  cV (some S) (.bs id off len cap) (some l) (some r) (some none) = some (.bs id (off + (l.getD 0).toNat * S) ((r.getD len).toNat - (l.getD 0).toNat) (cap.map fun c => c - (l.getD 0).toNat)) := by
 cases r <;> simp only [cV] <;> rw [if_pos ⟨h0, h1, h2⟩]
theorem rZ {l r : Option Int} (h0 : 0 ≤ l.getD 0) (h1 : l.getD 0 ≤ r.getD s.size) (h2 : r.getD s.size ≤ s.size) :
  cV none (.str s) (some l) (some r) (some none) = some (.str (s.extract (l.getD 0).toNat (r.getD s.size).toNat)) := by
 simp only [cV]; rw [if_pos ⟨trivial, h0, h1, h2⟩]
theorem JM {i : TypeId} {z : AV} : vA i z .nili = some (.tup [z, .bool false]) := rfl
theorem JN {i : TypeId} {z v : AV} : vA i z (.iface i v) = some (.tup [v, .bool true]) := by simp [vA]
theorem KU (h0 : 0 ≤ i) : zy (.str s) (.int k i) = FK s[i.toNat]? := by simp only [zy]; rw [if_pos h0]
theorem GS {b : UInt8} : FK (some b) = some (.int .u8 b.toNat) := rfl
theorem KV {fs : List (List AV)} : rF false (.sl m fs) = some fs := rfl
theorem E1 {bytes : Nat} {fs : List (List AV)} (h1 : (m != .sh || fs.isEmpty) = true) (h2 : szOK S es = true) (h3 : szOK S fs = true) (h4 : (es.length + fs.length) * bytes ≤ 140737488355328) (h5 : es.length + fs.length ≤ 9223372036854775807) :
  appV S bytes (.sl m es) (some fs) = some (ib m es fs) := by
 simp only [appV]
 rw [if_pos ⟨fun hn => by
  simp only [Bool.or_eq_true, bne_iff_ne, ne_eq, List.isEmpty_iff] at h1
  rcases h1 with h1 | h1
  ·exact h1
  ·exact absurd h1 hn, h2, h3, h4, h5⟩]
theorem GU : ib m es [] = .sl m es := by simp [ib]
theorem wY {f : List AV} {fs : List (List AV)} : ib m es (f :: fs) = .sl .own (es ++ f :: fs) := by simp [ib]
def eqs2 (neg : Bool) (o : Option Bool) : Option AV := match o with | some b => some (.bool (b != neg)) | none => none
theorem JO {neg : Bool} {idx : List (Nat × TypeDesc)} {cs ds : List AV} : eqsV neg idx (.agg cs) (.agg ds) = eqs2 neg (eqI cs ds idx) := by
 simp only [eqsV, eqs2]; cases eqI cs ds idx <;> rfl
theorem z7 {neg b : Bool} : eqs2 neg (some b) = some (.bool (b != neg)) := rfl
theorem E3 : ∀ (l : List UInt8), mrLL (l.map encB) = 0
 | [] => rfl
 | b :: l => by simp only [List.map_cons, mrLL, encB, mrL, AV.mr, E3 l]; rfl
theorem wZ {l : List UInt8} : szOK 1 (l.map encB) = true := by cases l <;> rfl
theorem JP {tok : Bool} {vs : List AV} (h1 : (!tok || !vs.isEmpty) = true) (h2 : yu S vs = true) : oU S tok vs = some (.sl (if tok then .own else .ex) (vs.map AV.cells)) := by
 simp only [oU]; rw [if_pos ⟨fun ht => by subst ht; simpa using h1, h2⟩]; rfl
def bldO (o : Option (List AV)) : Option AV := match o with | some cs => some (.agg cs) | none => none
theorem GV {z : List AV} {ps : List (Nat × Nat × AV)} : qI z ps = bldO (nt z ps) := by simp only [qI, bldO]; cases nt z ps <;> rfl
theorem Dh : bldO (some cs) = some (.agg cs) := rfl
theorem Di : nt cs [] = some cs := rfl
theorem z8 {sz : Nat} {v : AV} {r : List (Nat × Nat × AV)} (h1 : v.cells.length = sz) (h2 : Nat.ble (off + sz) cs.length = true) (h3 : aM v.cells = true) : nt cs ((off, sz, v) :: r) = nt (ovl cs off v.cells) r := by
 simp only [nt]; rw [if_pos ⟨h1, Nat.le_of_ble_eq_true h2, h3⟩]
theorem JQ {v : AV} : lN N h v (.box id off) = hput h id (oV N off v h[id]?) := by simp only [lN, hput]; cases oV N off v h[id]? <;> rfl
theorem w6 {v : AV} (h1 : Nat.ble (off + N) cs.length = true) (h2 : v.cells.length = N) (h3 : aM v.cells = true) : oV N off v (some (.cells cs)) = some (.cells (ovl cs off v.cells)) := by
 simp only [oV]; rw [if_pos ⟨Nat.le_of_ble_eq_true h1, h2, h3⟩]
theorem Aa {z : List AV} {len : Nat} {cap : Option Nat} : clrV z h (.bs id off len cap) = hput h id (clrB z off len h[id]?) := by simp only [clrV, hput]; cases clrB z off len h[id]? <;> rfl
theorem pj {z : List AV} {len : Nat} (h1 : off + len * z.length ≤ cs.length) : clrB z off len (some (.cells cs)) = some (.cells (ovl cs off (List.replicate len z).flatten)) := by
 simp only [clrB]; rw [if_pos h1]
end
section
variable {h : AH} {b c : Bx} {i : Nat} {js : AH}
theorem yJ : (h ++ [b])[h.length]? = some b := by simp
theorem yK : (h ++ [b]).set h.length c = h ++ [c] := by simp
theorem yL : (h ++ [b]).length = h.length + 1 := by simp
end
end Go.Proofs.YtibchilpaaiecaaGreatDoor.M
