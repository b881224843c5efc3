/- Equations of the function 'run' and of the code's limit, for simp: the part looked at first, what follows is never walked into. -/
import Derived.Test.YtibchilpaaiecaaGreatDoorM15
set_option linter.all false
namespace Go.Proofs.YtibchilpaaiecaaGreatDoor.M
universe u
open Go.RowKit
def kb (k : IntKind) : Nat := k.bits
theorem id_ok {p : Prop} (h : p) : p := h
def nrm (o : Option (List AV × AH)) : Option St := match o with | some (σ, h) => some (.normal, σ, h) | none => none
def bnd (o : Option St) (k : Ex → List AV → AH → Option St) : Option St := match o with | some (e, σ, h) => k e σ h | none => none
def bnd2 (o : Option (List AV × AH)) (k : List AV → AH → Option (List AV × AH)) : Option (List AV × AH) := match o with | some (σ, h) => k σ h | none => none
noncomputable def seqK (T : Tbl) (b : CC) (e : Ex) (σ : List AV) (h : AH) : Option St := match e with | .normal => den T b σ h | .exit i => some (.exit i, σ, h) | .ret => some (.ret, σ, h)
def blkK (id : Nat) (e : Ex) (σ : List AV) (h : AH) : Option St := match e with | .normal => some (.normal, σ, h) | .exit j => if j = id then some (.normal, σ, h) else some (.exit j, σ, h) | .ret => some (.ret, σ, h)
noncomputable def dop (T : Tbl) (op : COp) (d : Option Nat) (σ : List AV) (h : AH) : Option (List AV × AH) := xeff T (den T) op d σ h
noncomputable def dops (T : Tbl) (l : List CO) (σ : List AV) (h : AH) : Option (List AV × AH) := xops T (den T) l σ h
noncomputable def dopsD (T : Tbl) (S : List Nat) (E : List (AH × AH)) (l : List (CO × Bool)) (σ : List AV) (h : AH) : Option (List AV × AH) := xopsD T (den T) S E l σ h
noncomputable def dgd (T : Tbl) (v : Option AV) (w : Bool) (op : COp) (d : Option Nat) (σ : List AV) (h : AH) : Option (List AV × AH) :=
  match v with | some (.bool b) => if b == w then dop T op d σ h else some (putA σ d undefA, h) | some .any => none | _ => some (putA σ d undefA, h)
noncomputable def dif_ (T : Tbl) (v : AV) (x y : CC) (σ : List AV) (h : AH) : Option St := match v with | .bool true => den T x σ h | .bool false => den T y σ h | _ => none
def vput (σ : List AV) (d : Option Nat) (h : AH) (o : Option AV) : Option (List AV × AH) := match o with | some v => some (putA σ d v, h) | none => none
def cput (σ : List AV) (d : Option Nat) (o : Option (AV × AH)) : Option (List AV × AH) := match o with | some (v, h) => some (putA σ d v, h) | none => none
def sput (σ : List AV) (o : Option AH) : Option (List AV × AH) := match o with | some h => some (σ, h) | none => none
def eput (σ : List AV) (t : Nat) (d : Option Nat) (h : AH) (o : Option (AV × List AV)) : Option (List AV × AH) := match o with | some (c, cs) => some (putA (σ.set t (.tup cs)) d c, h) | none => none
def exV (i : Nat) (v : AV) : Option (AV × List AV) := match v with | .tup cs => (match cs[i]? with | some c => some (c, cs.set i c.sh) | none => none) | _ => none
def exC (cs : List AV) (i : Nat) (o : Option AV) : Option (AV × List AV) := match o with | some c => some (c, cs.set i c.sh) | none => none
def hput (h : AH) (id : Nat) (o : Option Bx) : Option AH := match o with | some b => some (h.set id b) | none => none
noncomputable def fin1 (o : Option St) (rs : List RV) (h : AH) : Option (AV × AH) := o.bind (finF rs h)
noncomputable def fin2 (o : Option (List AV)) (h h' : AH) : Option (AV × AH) := match o with | some vs => gc h (oneOf vs) h' | none => none
noncomputable def endD (S : List Nat) (E : List (AH × AH)) (σ : List AV) (h : AH) : Option (List AV × AH) := dopsD (fun _ => none) S E [] σ h
noncomputable def nextD (T : Tbl) (S : List Nat) (E : List (AH × AH)) (p : CO × Bool) (r : List (CO × Bool)) (σ0 : List AV) (h0 : AH) (o : Option (List AV × AH)) : Option (List AV × AH) :=
  match o with | some (σ, h) => dopsD T (addS p σ0 S) (addE p h0 h E) r σ h | none => none
noncomputable def gdO (T : Tbl) (o : CO) (σ : List AV) (h : AH) : Option (List AV × AH) := match o.guard with | none => dop T o.op o.dst σ h | some (s, w) => dgd T σ[s]? w o.op o.dst σ h
def recons (v : AV) (o : Option (List AV)) : Option (List AV) := match o with | some vs => some (v :: vs) | none => none
def rebind (rs : List RV) (σ : List AV) (h : AH) (o : Option AV) : Option (List AV) := match o with | some v => recons v (retV h rs σ) | none => none
section
variable {T : Tbl} {σ σ' : List AV} {h h' : AH} {Q : Ex → List AV → AH → Option St} {k : List AV → AH → Option (List AV × AH)} {d : Option Nat} {x y : Opd} {e : Ex}
theorem n_some : nrm (some (σ, h)) = some (.normal, σ, h) := rfl
theorem b_some : bnd (some (e, σ, h)) Q = Q e σ h := rfl
theorem b2_some : bnd2 (some (σ, h)) k = k σ h := rfl
theorem sq_n {b : CC} : seqK T b .normal σ h = den T b σ h := rfl
theorem sq_e {b : CC} {i : Nat} : seqK T b (.exit i) σ h = some (.exit i, σ, h) := rfl
theorem sq_r {b : CC} : seqK T b .ret σ h = some (.ret, σ, h) := rfl
theorem bk_n {i : Nat} : blkK i .normal σ h = some (.normal, σ, h) := rfl
theorem bk_e {i : Nat} : blkK i (.exit i) σ h = some (.normal, σ, h) := by simp [blkK]
theorem bk_o {i j : Nat} (hn : (j == i) = false) : blkK i (.exit j) σ h = some (.exit j, σ, h) := by
  have : ¬ j = i := by simpa using hn
  simp [blkK, this]
theorem bk_r {i : Nat} : blkK i .ret σ h = some (.ret, σ, h) := rfl
theorem v_some {v : AV} : vput σ d h (some v) = some (putA σ d v, h) := rfl
theorem c_some {v : AV} : cput σ d (some (v, h)) = some (putA σ d v, h) := rfl
theorem s_some : sput σ (some h) = some (σ, h) := rfl
theorem e_some {t : Nat} {c : AV} {cs : List AV} : eput σ t d h (some (c, cs)) = some (putA (σ.set t (.tup cs)) d c, h) := rfl
theorem ex_tup {i : Nat} {cs : List AV} : exV i (.tup cs) = exC cs i cs[i]? := by simp only [exV, exC]
theorem ex_some {i : Nat} {cs : List AV} {c : AV} : exC cs i (some c) = some (c, cs.set i c.sh) := rfl
theorem h_some {id : Nat} {b : Bx} : hput h id (some b) = some (h.set id b) := rfl
theorem k_nil : kills [] σ = σ := rfl
theorem k_cons {i : Nat} {ws : List Nat} : kills (i :: ws) σ = kills ws (σ.set i .any) := rfl
theorem d_skip : den T .skip σ h = some (.normal, σ, h) := by rw [den_eq]; rfl
theorem d_region {ops : List CO} : den T (.region ops) σ h = nrm (dops T ops σ h) := by
  rw [den_eq]; simp only [step, dops]; cases xops T (den T) ops σ h <;> rfl
theorem d_dregion {ops : List (CO × Bool)} : den T (.dregion ops) σ h = nrm (dopsD T [] [] ops σ h) := by
  rw [den_eq]; simp only [step, dopsD]; cases xopsD T (den T) [] [] ops σ h <;> rfl
theorem d_seq {a b : CC} : den T (.seq a b) σ h = bnd (den T a σ h) (seqK T b) := by
  rw [den_eq]; simp only [step]
  cases den T a σ h with
  | none => rfl
  | some r => obtain ⟨e, σ1, h1⟩ := r; cases e <;> rfl
theorem d_cond {c : Opd} {x y : CC} : den T (.cond c x y) σ h = dif_ T (evalO σ c) x y σ h := by
  rw [den_eq]; simp only [step, dif_]
  cases evalO σ c <;> rfl
theorem d_block {i : Nat} {c : CC} : den T (.block i c) σ h = bnd (den T c σ h) (blkK i) := by
  rw [den_eq]; simp only [step]
  cases den T c σ h with
  | none => rfl
  | some r =>
    obtain ⟨e, σ1, h1⟩ := r
    cases e <;> simp only [Option.map_some, outB, bnd, blkK]
    split <;> rfl
theorem d_loop {c : CC} : den T (.loop c) σ h = bnd (den T c σ h) (seqK T (.loop c)) := by
  rw [den_eq]; simp only [step]
  cases den T c σ h with
  | none => rfl
  | some r => obtain ⟨e, σ1, h1⟩ := r; cases e <;> rfl
theorem d_exit {i : Nat} : den T (.exit i) σ h = some (.exit i, σ, h) := by rw [den_eq]; rfl
theorem d_ret : den T .ret σ h = some (.ret, σ, h) := by rw [den_eq]; rfl
theorem d_kill {ws : List Nat} {c : CC} : den T (.kill ws c) σ h = den T c (kills ws σ) h := by rw [den_eq]; rfl
theorem d_both {a b : CC} : den T (.both a b) σ h = agree (den T a σ h) (den T b σ h) := by rw [den_eq]; rfl
theorem ag_self {α : Type} {x : α} : agree (some x) (some x) = some x := agree_some.2 ⟨rfl, rfl⟩
theorem d_rsplit {g : Opd} {p : Nat} {ca cb : CC} : den T (.rsplit g p ca cb) σ h = rsS T (den T ca) (den T cb) p σ h (evalO σ g) := by rw [den_eq]; rfl
@[congr] theorem g_rsS {ra rb : List AV → AH → Option St} {p : Nat} {v v' : AV} (h1 : v = v') : rsS T ra rb p σ h v = rsS T ra rb p σ h v' := by rw [h1]
theorem if_t {x y : CC} : dif_ T (.bool true) x y σ h = den T x σ h := rfl
theorem if_f {x y : CC} : dif_ T (.bool false) x y σ h = den T y σ h := rfl
theorem p_nil : dops T [] σ h = some (σ, h) := rfl
theorem xeff_eff {o : CO} : xeff T (den T) (effOp o σ) o.dst σ h = gdO T o σ h := by
  obtain ⟨dd, op, g⟩ := o
  simp only [gdO, effOp]
  cases g with
  | none => rfl
  | some sw =>
    obtain ⟨s, w⟩ := sw
    simp only [gV, dgd]
    have hm : ∀ d', xeff T (den T) (.mov (.con undefA)) d' σ h = some (putA σ d' undefA, h) := fun d' => by
      simp only [xeff, callOf, xop, Option.map_some, putL_put]; rfl
    cases σ[s]? with
    | none => exact hm _
    | some v =>
      cases v
      case bool b => cases b <;> cases w <;> first | rfl | exact hm _
      case any => rfl
      all_goals exact hm _
theorem p_none {op : COp} {r : List CO} : dops T (⟨d, op, none⟩ :: r) σ h = bnd2 (dop T op d σ h) (dops T r) := by
  simp only [dops, xops]
  rw [show xeff T (den T) (effOp ⟨d, op, none⟩ σ) d σ h = dop T op d σ h from xeff_eff (o := ⟨d, op, none⟩)]
  cases dop T op d σ h <;> rfl
theorem p_gd {op : COp} {r : List CO} {s : Nat} {w : Bool} : dops T (⟨d, op, some (s, w)⟩ :: r) σ h = bnd2 (dgd T σ[s]? w op d σ h) (dops T r) := by
  simp only [dops, xops]
  rw [show xeff T (den T) (effOp ⟨d, op, some (s, w)⟩ σ) d σ h = dgd T σ[s]? w op d σ h from xeff_eff (o := ⟨d, op, some (s, w)⟩)]
  cases dgd T σ[s]? w op d σ h <;> rfl
theorem gd_tt {op : COp} : dgd T (some (.bool true)) true op d σ h = dop T op d σ h := rfl
theorem gd_ft {op : COp} : dgd T (some (.bool false)) true op d σ h = some (putA σ d undefA, h) := rfl
theorem gd_tf {op : COp} : dgd T (some (.bool true)) false op d σ h = some (putA σ d undefA, h) := rfl
theorem gd_ff {op : COp} : dgd T (some (.bool false)) false op d σ h = dop T op d σ h := rfl
theorem gd_tup {op : COp} {cs : List AV} {w : Bool} : dgd T (some (.tup cs)) w op d σ h = some (putA σ d undefA, h) := rfl
theorem gd_und {op : COp} {w : Bool} : dgd T (some undefA) w op d σ h = some (putA σ d undefA, h) := rfl
theorem pd_cons {S : List Nat} {E : List (AH × AH)} {p : CO × Bool} {r : List (CO × Bool)} : dopsD T S E (p :: r) σ h = nextD T S E p r σ h (gdO T p.1 σ h) := by
  simp only [dopsD, xopsD, xeff_eff]
  cases gdO T p.1 σ h <;> rfl
theorem pd_next {S : List Nat} {E : List (AH × AH)} {p : CO × Bool} {r : List (CO × Bool)} {σ0 : List AV} {h0 : AH} : nextD T S E p r σ0 h0 (some (σ, h)) = dopsD T (addS p σ0 S) (addE p h0 h E) r σ h := rfl
theorem pd_nil {S : List Nat} {E : List (AH × AH)} (hE : ∀ e ∈ E, sameS S e.1 e.2) : dopsD T S E [] σ h = some (σ, h) := by
  simp only [dopsD, xopsD]; rw [if_pos hE]
theorem gd_n {op : COp} : gdO T ⟨d, op, none⟩ σ h = dop T op d σ h := rfl
theorem gd_s {op : COp} {s : Nat} {w : Bool} : gdO T ⟨d, op, some (s, w)⟩ σ h = dgd T σ[s]? w op d σ h := rfl
@[congr] theorem g_bnd {o o' : Option St} (h1 : o = o') : bnd o Q = bnd o' Q := by rw [h1]
@[congr] theorem g_bnd2 {o o' : Option (List AV × AH)} (h1 : o = o') : bnd2 o k = bnd2 o' k := by rw [h1]
@[congr] theorem g_den {c : CC} (h1 : σ = σ') (h2 : h = h') : den T c σ h = den T c σ' h' := by rw [h1, h2]
@[congr] theorem g_dops {l : List CO} (h1 : σ = σ') (h2 : h = h') : dops T l σ h = dops T l σ' h' := by rw [h1, h2]
@[congr] theorem g_dopsD {S : List Nat} {E : List (AH × AH)} {l : List (CO × Bool)} (h1 : σ = σ') (h2 : h = h') : dopsD T S E l σ h = dopsD T S E l σ' h' := by rw [h1, h2]
@[congr] theorem g_nextD {S : List Nat} {E : List (AH × AH)} {p : CO × Bool} {r : List (CO × Bool)} {o o' : Option (List AV × AH)} (h1 : o = o') : nextD T S E p r σ h o = nextD T S E p r σ h o' := by rw [h1]
@[congr] theorem g_dop {op : COp} (h1 : σ = σ') (h2 : h = h') : dop T op d σ h = dop T op d σ' h' := by rw [h1, h2]
@[congr] theorem g_seqK {b : CC} (h1 : σ = σ') (h2 : h = h') : seqK T b e σ h = seqK T b e σ' h' := by rw [h1, h2]
@[congr] theorem g_blkK {i : Nat} (h1 : σ = σ') (h2 : h = h') : blkK i e σ h = blkK i e σ' h' := by rw [h1, h2]
@[congr] theorem g_dif {v v' : AV} {x y : CC} (h1 : v = v') : dif_ T v x y σ h = dif_ T v' x y σ h := by rw [h1]
@[congr] theorem g_dgd {v v' : Option AV} {w : Bool} {op : COp} (h1 : v = v') : dgd T v w op d σ h = dgd T v' w op d σ h := by rw [h1]
@[congr] theorem g_vput {o o' : Option AV} (h1 : o = o') : vput σ d h o = vput σ d h o' := by rw [h1]
@[congr] theorem g_cput {o o' : Option (AV × AH)} (h1 : o = o') : cput σ d o = cput σ d o' := by rw [h1]
@[congr] theorem g_sput {o o' : Option AH} (h1 : o = o') : sput σ o = sput σ o' := by rw [h1]
@[congr] theorem g_eput {t : Nat} {o o' : Option (AV × List AV)} (h1 : o = o') : eput σ t d h o = eput σ t d h o' := by rw [h1]
@[congr] theorem g_hput {id : Nat} {o o' : Option Bx} (h1 : o = o') : hput h id o = hput h id o' := by rw [h1]
@[congr] theorem g_exC {cs : List AV} {i : Nat} {o o' : Option AV} (h1 : o = o') : exC cs i o = exC cs i o' := by rw [h1]
@[congr] theorem g_fin1 {rs : List RV} {o o' : Option St} (h1 : o = o') : fin1 o rs h = fin1 o' rs h := by rw [h1]
@[congr] theorem g_fin2 {o o' : Option (List AV)} (h1 : o = o') : fin2 o h h' = fin2 o' h h' := by rw [h1]
@[congr] theorem g_run {f : FuncId} {a a' : List AV} (h1 : a = a') (h2 : h = h') : run T f a h = run T f a' h' := by rw [h1, h2]
variable {t : Nat}
theorem put_some {i : Nat} {v : AV} : putA σ (some i) v = σ.set i v := rfl
theorem put_none {v : AV} : putA σ none v = σ := rfl
theorem ev_tmp : evalO σ (.tmp t) = σ.getD t undefA := rfl
theorem ev_con {v : AV} : evalO σ (.con v) = v := rfl
theorem gd_zero {a : AV} {l : List AV} : (a :: l).getD 0 undefA = a := rfl
theorem gd_succ {a : AV} {l : List AV} {n : Nat} : (a :: l).getD (n + 1) undefA = l.getD n undefA := rfl
theorem dop_val {op : COp} {f : Option AV} (hc : callOf op (evalO σ) = none) (hx : xop op d (evalO σ) h = val d h f) : dop T op d σ h = vput σ d h f := by
  simp only [dop, xeff, hc, hx, val]
  cases f with
  | none => rfl
  | some v => simp only [Option.map_some, vput, putL_put]
theorem o_mov : dop T (.mov x) d σ h = some (putA σ d (evalO σ x).sh, h) := by simp only [dop, xeff, callOf, xop, Option.map_some, putL_put]
theorem o_take_t : dop T (.take (.tmp t)) d σ h = some (putA (σ.set t (σ.getD t undefA).sh) d (σ.getD t undefA), h) := by
  simp only [dop, xeff, callOf, xop, Option.map_some, putL_append, putL_put]; rfl
theorem o_take_c {v : AV} : dop T (.take (.con v)) d σ h = some (putA σ d v, h) := by
  simp only [dop, xeff, callOf, xop, Option.map_some, putL_append, putL_put]; rfl
theorem o_pick {c : Opd} : dop T (.pick c x y) d σ h = vput σ d h (pickV (evalO σ c) (evalO σ x) (evalO σ y)) := dop_val rfl rfl
theorem o_alloc {cs : List AV} : dop T (.alloc cs) d σ h = some (putA σ d (.box h.length 0), h ++ [.cells cs]) := by simp only [dop, xeff, callOf, xop, Option.map_some, putL_put]
theorem o_box_t (ho : onesL (σ.getD t undefA).cells = true) : dop T (.box (.tmp t)) d σ h = some (putA (σ.set t (σ.getD t undefA).sh) d (.box h.length 0), h ++ [.cells (σ.getD t undefA).cells]) := by
  simp only [dop, xeff, callOf, xop]
  rw [if_pos (by exact ho)]
  simp only [Option.map_some, putL_append, putL_put]; rfl
theorem o_box_c {v : AV} (ho : onesL v.cells = true) : dop T (.box (.con v)) d σ h = some (putA σ d (.box h.length 0), h ++ [.cells v.cells]) := by
  simp only [dop, xeff, callOf, xop]
  rw [if_pos (by exact ho)]
  simp only [Option.map_some, putL_append, putL_put]; rfl
theorem o_load {m : Option Nat} : dop T (.load m x) d σ h = vput σ d h (loadV m h (evalO σ x)) := dop_val rfl rfl
def tput (σ : List AV) (d : Option Nat) (h : AH) (id : Nat) (o : Option (AV × Bx)) : Option (List AV × AH) := match o with | some (c, b) => some (putA σ d c, h.set id b) | none => none
def ltk (σ : List AV) (d : Option Nat) (h : AH) (v : AV) : Option (List AV × AH) := match v with | .box id off => tput σ d h id (ltakeB off h[id]?) | _ => none
def ltkC (cs : List AV) (off : Nat) (o : Option AV) : Option (AV × Bx) := match o with | some c => some (c, .cells (cs.set off c.sh)) | none => none
theorem o_ltake : dop T (.ltake x) d σ h = ltk σ d h (evalO σ x) := by
  simp only [dop, xeff, callOf, xop, ltk]
  cases evalO σ x <;> simp only [ltakeV, Option.map_none]
  rename_i id off
  cases ltakeB off h[id]? with
  | none => rfl
  | some r => obtain ⟨c, b⟩ := r; simp only [tput, Option.map_some, putL_put]
theorem ltk_box {id off : Nat} : ltk σ d h (.box id off) = tput σ d h id (ltakeB off h[id]?) := rfl
theorem ltB_some {cs : List AV} {off : Nat} : ltakeB off (some (.cells cs)) = ltkC cs off cs[off]? := by simp only [ltakeB, ltkC]; cases cs[off]? <;> rfl
theorem ltC_some {cs : List AV} {off : Nat} {c : AV} : ltkC cs off (some c) = some (c, .cells (cs.set off c.sh)) := rfl
theorem tp_some {id : Nat} {c : AV} {b : Bx} : tput σ d h id (some (c, b)) = some (putA σ d c, h.set id b) := rfl
@[congr] theorem g_ltk {v v' : AV} (h1 : v = v') : ltk σ d h v = ltk σ d h v' := by rw [h1]
@[congr] theorem g_tput {id : Nat} {o o' : Option (AV × Bx)} (h1 : o = o') : tput σ d h id o = tput σ d h id o' := by rw [h1]
@[congr] theorem g_ltkC {cs : List AV} {off : Nat} {o o' : Option AV} (h1 : o = o') : ltkC cs off o = ltkC cs off o' := by rw [h1]
theorem o_rbox : dop T (.rbox x) d σ h = vput σ d h (rboxV (evalO σ x)) := dop_val rfl rfl
theorem rbox_ok {v : AV} (ho : onesL v.cells = true) : rboxV v = some (.ref (shL v.cells)) := by unfold rboxV; rw [if_pos ho]
theorem o_store_t {N : Nat} : dop T (.store N x (.tmp t)) none σ h = sput (σ.set t (σ.getD t undefA).sh) (storeV N h (σ.getD t undefA) (evalO σ x)) := by
  simp only [dop, xeff, callOf, xop, if_true]
  show Option.map _ (Option.map _ (storeV N h (σ.getD t undefA) (evalO σ x))) = _
  cases storeV N h (σ.getD t undefA) (evalO σ x) <;> rfl
theorem o_store_c {N : Nat} {v : AV} : dop T (.store N x (.con v)) none σ h = sput σ (storeV N h v (evalO σ x)) := by
  simp only [dop, xeff, callOf, xop, if_true]
  show Option.map _ (Option.map _ (storeV N h v (evalO σ x))) = _
  cases storeV N h v (evalO σ x) <;> rfl
theorem o_nilck : dop T (.nilck x) d σ h = vput σ d h (nilckV (evalO σ x)) := dop_val rfl rfl
theorem o_bin {op : BinOp} : dop T (.bin op x y) d σ h = vput σ d h (binV op (evalO σ x) (evalO σ y)) := dop_val rfl rfl
theorem o_un {op : UnOp} : dop T (.un op x) d σ h = vput σ d h (unV op (evalO σ x)) := dop_val rfl rfl
theorem o_cInt {k : IntKind} : dop T (.cInt k x) d σ h = vput σ d h (cIntV k (evalO σ x)) := dop_val rfl rfl
theorem o_cStr : dop T (.cStr x) d σ h = vput σ d h (cStrV (evalO σ x)) := dop_val rfl rfl
theorem o_cBytesStr : dop T (.cBytesStr x) d σ h = vput σ d h (bytesV (evalO σ x)) := dop_val rfl rfl
theorem o_cStrBytes : dop T (.cStrBytes x) d σ h = vput σ d h (strBytesV (evalO σ x)) := dop_val rfl rfl
theorem o_faddr {o : Nat} : dop T (.faddr o x) d σ h = vput σ d h (faddrV o (evalO σ x)) := dop_val rfl rfl
theorem o_iaddr {S : Nat} {ar : Option Nat} : dop T (.iaddr S ar x y) d σ h = vput σ d h (iaddrV S ar (evalO σ x) (evalO σ y)) := dop_val rfl rfl
theorem o_idxs : dop T (.idxs x y) d σ h = vput σ d h (idxsV (evalO σ x) (evalO σ y)) := dop_val rfl rfl
theorem o_idxa {m : Option Nat} {S N : Nat} : dop T (.idxa m S N x y) d σ h = vput σ d h (idxaV m S N (evalO σ x) (evalO σ y)) := dop_val rfl rfl
theorem o_fld {m : Option Nat} {o : Nat} : dop T (.fld m o x) d σ h = vput σ d h (fieldV m o (evalO σ x)) := dop_val rfl rfl
theorem o_lens : dop T (.lens x) d σ h = vput σ d h (lensV (evalO σ x)) := dop_val rfl rfl
theorem o_lenl : dop T (.lenl x) d σ h = vput σ d h (lenlV (evalO σ x)) := dop_val rfl rfl
theorem o_mkif {i : TypeId} : dop T (.mkif i x) d σ h = some (putA σ d (.iface i (evalO σ x).sh), h) := by simp only [dop, xeff, callOf, xop, Option.map_some, putL_put]
theorem o_tass {i : TypeId} {z : AV} : dop T (.tass i z x) d σ h = vput σ d h (tassV i z (evalO σ x)) := dop_val rfl rfl
theorem o_mkfn {f : Fn} {l1 l2 : List Opd} : dop T (.mkfn f l1 l2) d σ h = some (putA σ d (.fn f (shL (l1.map (evalO σ))) (shL (l2.map (evalO σ)))), h) := by simp only [dop, xeff, callOf, xop, Option.map_some, putL_put]
theorem o_extract {i : Nat} : dop T (.extract t i) d σ h = eput σ t d h (exV i (σ.getD t undefA)) := by
  simp only [dop, xeff, callOf, xop, ev_tmp]
  cases σ.getD t undefA <;> simp only [extractV, exV] <;> try rfl
  rename_i cs
  cases cs[i]? <;> simp [eput, putL, putL_put]
def bndI : AV → Option (Option Int) | .int _ i => some (some i) | _ => none
theorem bn_none : bndE (evalO σ) none = some none := rfl
theorem bn_some : bndE (evalO σ) (some x) = bndI (evalO σ x) := by simp only [bndE, bndI]; cases evalO σ x <;> rfl
theorem bndI_int {k : IntKind} {i : Int} : bndI (.int k i) = some (some i) := rfl
theorem o_slice {S : Option Nat} {lo hi mx : Option Opd} : dop T (.slice S x lo hi mx) d σ h = vput σ d h (sliceV S (evalO σ x) (bndE (evalO σ) lo) (bndE (evalO σ) hi) (bndE (evalO σ) mx)) := dop_val rfl rfl
theorem o_append_t {S bytes : Nat} {str : Bool} : dop T (.append S bytes str (.tmp t) y) d σ h = vput (σ.set t (σ.getD t undefA).sh) d h (appV S bytes (σ.getD t undefA) (newsV str (evalO σ y))) := by
  simp only [dop, xeff, callOf, xop, ev_tmp]
  cases appV S bytes (σ.getD t undefA) (newsV str (evalO σ y)) with
  | none => rfl
  | some v => simp only [Option.map_some, putL_append, putL_put]; rfl
theorem o_append_c {S bytes : Nat} {str : Bool} {v : AV} : dop T (.append S bytes str (.con v) y) d σ h = vput σ d h (appV S bytes v (newsV str (evalO σ y))) := by
  simp only [dop, xeff, callOf, xop, ev_con]
  cases appV S bytes v (newsV str (evalO σ y)) with
  | none => rfl
  | some v => simp only [Option.map_some, putL_append, putL_put]; rfl
theorem o_build {z : List AV} {ps : List (Nat × Nat × Opd)} : dop T (.build z ps) d σ h = vput σ d h (buildV z (shP (evalO σ) ps)) := dop_val rfl rfl
theorem o_bslice {S : Nat} {tok : Bool} {xs : List Opd} : dop T (.bslice S tok xs) d σ h = vput σ d h (bsliceV S tok (xs.map fun x => (evalO σ x).sh)) := dop_val rfl rfl
theorem o_bconv_t : dop T (.bconv (.tmp t)) d σ h = vput (σ.set t (σ.getD t undefA).sh) d h (bconvV (σ.getD t undefA)) := by
  simp only [dop, xeff, callOf, xop, ev_tmp]
  cases bconvV (σ.getD t undefA) with
  | none => rfl
  | some v => simp only [Option.map_some, putL_append, putL_put]; rfl
theorem o_eqb {neg : Bool} : dop T (.eqb neg x y) d σ h = vput σ d h (eqbV neg (evalO σ x) (evalO σ y)) := dop_val rfl rfl
theorem o_isnil {nk : NK} {neg : Bool} : dop T (.isnil nk neg x) d σ h = vput σ d h (isnilV nk neg (evalO σ x)) := dop_val rfl rfl
theorem o_slnil {neg : Bool} : dop T (.slnil neg x) d σ h = vput σ d h (slnilV neg (evalO σ x)) := dop_val rfl rfl
theorem o_mnmx {mx : Bool} : dop T (.mnmx mx x y) d σ h = vput σ d h (mnmxV mx (evalO σ x) (evalO σ y)) := dop_val rfl rfl
theorem o_mkslice {b : Nat} {z : List AV} : dop T (.mkslice b z x y) d σ h = cput σ d (mksliceV b z h (evalO σ x) (evalO σ y)) := by
  simp only [dop, xeff, callOf, xop]
  cases mksliceV b z h (evalO σ x) (evalO σ y) with
  | none => rfl
  | some r => obtain ⟨v, h'⟩ := r; simp only [Option.map_some, cput, putL_put]
theorem o_mkmap : dop T .mkmap d σ h = some (putA σ d (.mp h.length), h ++ [.amap []]) := by simp only [dop, xeff, callOf, xop, Option.map_some, putL_put]
theorem o_look {dd : TypeDesc} {z : AV} {ok : Bool} : dop T (.look dd z ok x y) d σ h = vput σ d h (lookV dd z ok h (evalO σ x) (evalO σ y)) := dop_val rfl rfl
theorem o_lenm : dop T (.lenm x) d σ h = vput σ d h (lenmV h (evalO σ x)) := dop_val rfl rfl
theorem o_eqs {neg : Bool} {idx : List (Nat × TypeDesc)} : dop T (.eqs neg idx x y) d σ h = vput σ d h (eqsV neg idx (evalO σ x) (evalO σ y)) := dop_val rfl rfl
theorem o_mput {dd : TypeDesc} {z : Opd} : dop T (.mput dd x y z) none σ h = sput σ (mputV dd h (evalO σ y) (evalO σ z).sh (evalO σ x)) := by
  simp only [dop, xeff, callOf, xop, if_true]
  cases mputV dd h (evalO σ y) (evalO σ z).sh (evalO σ x) <;> rfl
theorem o_clr {z : List AV} : dop T (.clr z x) none σ h = sput σ (clrV z h (evalO σ x)) := by
  simp only [dop, xeff, callOf, xop, if_true]
  cases clrV z h (evalO σ x) <;> rfl
theorem o_call {f : FuncId} {args : List Opd} : dop T (.call f args) d σ h = cput σ d (run T f (shL (args.map (evalO σ))) h) := by
  simp only [dop, xeff, callOf, run]
  cases callF T (den T) f (shL (args.map (evalO σ))) h <;> rfl
def fnv (o : AV) : Option (FuncId × List AV × List AV) := match o with | .fn (.func f) a b => some (f, a, b) | _ => none
noncomputable def runv (T : Tbl) (o : AV) (args : List AV) (h : AH) : Option (AV × AH) := match o with | .fn (.func f) a b => run T f (shL (a ++ args ++ b)) h | _ => none
def pput (σ : List AV) (d : Option Nat) (h : AH) (o : Option (AV × AH)) : Option (List AV × AH) := match o with | some (r, []) => some (putA σ d r, h) | _ => none
noncomputable def pcl (T : Tbl) (f : FuncId) (args : List AV) (σ : List AV) (d : Option Nat) (h : AH) : Option (List AV × AH) := if mrL args = 0 then pput σ d h (run T f args []) else none
theorem o_pcall {f : FuncId} {args : List Opd} : dop T (.pcall f args) d σ h = pcl T f (shL (args.map (evalO σ))) σ d h := by
  simp only [dop, xeff, callOf, run, pcl]
  split
  · cases callF T (den T) f (shL (args.map (evalO σ))) [] with
    | none => rfl
    | some r => obtain ⟨v, h'⟩ := r; cases h' <;> rfl
  · rfl
theorem pcl_ok {f : FuncId} {args : List AV} (hm : mrL args = 0) : pcl T f args σ d h = pput σ d h (run T f args []) := by simp only [pcl]; rw [if_pos hm]
@[congr] theorem g_pcl {f : FuncId} {args args' : List AV} (h1 : args = args') : pcl T f args σ d h = pcl T f args' σ d h := by rw [h1]
theorem pp_some {v : AV} : pput σ d h (some (v, [])) = some (putA σ d v, h) := rfl
@[congr] theorem g_pput {o o' : Option (AV × AH)} (h1 : o = o') : pput σ d h o = pput σ d h o' := by rw [h1]
theorem o_callv {args : List Opd} : dop T (.callv x args) d σ h = cput σ d (runv T (evalO σ x) (args.map (evalO σ)) h) := by
  simp only [dop, xeff, callOf, runv, run]
  cases evalO σ x <;> simp only [xop, Option.map_none, cput]
  rename_i f a b
  cases f <;> simp only [xop, Option.map_none, cput]
  cases callF T (den T) _ _ h <;> rfl
theorem rv_fn {f : FuncId} {a b args : List AV} : runv T (.fn (.func f) a b) args h = run T f (shL (a ++ args ++ b)) h := rfl
@[congr] theorem g_runv {o o' : AV} {a a' : List AV} (h1 : o = o') (h2 : a = a') : runv T o a h = runv T o' a' h := by rw [h1, h2]
theorem run_code {f : FuncId} {cf : CFn} {args : List AV} (hT : T f = some (.code cf)) : run T f args h = fin1 (den T cf.body (args ++ List.replicate (cf.ntmps - args.length) undefA) h) cf.res h := by
  simp only [run, callF, hT, fin1]
theorem f_norm {rs : List RV} {h0 : AH} : fin1 (some (.normal, σ, h)) rs h0 = fin2 (retV h rs σ) h0 h := by
  simp only [fin1, Option.bind_some, finF, fin2]; cases retV h rs σ <;> rfl
theorem f_ret {rs : List RV} {h0 : AH} : fin1 (some (.ret, σ, h)) rs h0 = fin2 (retV h rs σ) h0 h := by
  simp only [fin1, Option.bind_some, finF, fin2]; cases retV h rs σ <;> rfl
theorem f2_some {vs : List AV} {h0 : AH} : fin2 (some vs) h0 h = gc h0 (oneOf vs) h := rfl
theorem one_1 {v : AV} : oneOf [v] = v := rfl
theorem one_0 : oneOf [] = .tup [] := rfl
theorem one_2 {v w : AV} {vs : List AV} : oneOf (v :: w :: vs) = .tup (v :: w :: vs) := rfl
theorem r_nil : retV h [] σ = some [] := rfl
theorem r_tmp {rs : List RV} : retV h (.tmp t :: rs) σ = recons (σ.getD t undefA) (retV h rs (σ.set t (σ.getD t undefA).sh)) := by
  simp only [retV, recons]; cases retV h rs _ <;> rfl
theorem r_cell {rs : List RV} {m : Option Nat} : retV h (.cell t m :: rs) σ = rebind rs σ h (loadV m h (σ.getD t undefA)) := by
  simp only [retV, rebind]
  cases loadV m h (σ.getD t undefA) with
  | none => rfl
  | some v => simp only [Option.bind_some, recons]; cases retV h rs σ <;> rfl
theorem rc_some {v : AV} {vs : List AV} : recons v (some vs) = some (v :: vs) := rfl
theorem rb_some {v : AV} {rs : List RV} : rebind rs σ h (some v) = recons v (retV h rs σ) := rfl
@[congr] theorem g_rebind {rs : List RV} {o o' : Option AV} (h1 : o = o') : rebind rs σ h o = rebind rs σ h o' := by rw [h1]
@[congr] theorem g_retV {rs : List RV} (h1 : σ = σ') : retV h rs σ = retV h rs σ' := by rw [h1]
def gcS (h h0 : AH) : Prop := h0.length = h.length ∧ ∀ i, i < h.length → h0[i]? = h[i]? ∨ ∃ b, h0[i]? = some b ∧ mrB b ≤ h.length
theorem gcS_refl : gcS h h := ⟨rfl, fun i _ => .inl rfl⟩
theorem gcS_set {h0 : AH} {i : Nat} {b : Bx} (hs : gcS h h0) (hb : mrB b ≤ h.length) : gcS h (h0.set i b) := by
  refine ⟨by simp [hs.1], fun j hj => ?_⟩
  by_cases hji : i = j
  · subst hji; right; exact ⟨b, by rw [List.getElem?_set_self (by have := hs.1; omega)], hb⟩
  · rw [List.getElem?_set_ne hji]; exact hs.2 j hj
theorem gc_len {r : AV} (hl : h'.length ≤ h.length) : gc h r h' = some (r, h') := by
  unfold gc; rw [if_pos (.inl hl)]
theorem gc_self {r : AV} : gc h r h = some (r, h) := gc_len (Nat.le_refl _)
theorem gc_set1 {r : AV} {i : Nat} {b : Bx} : gc h r (h.set i b) = some (r, h.set i b) := gc_len (by simp)
theorem gc_keep {r : AV} (hl : h.length < r.mr) : gc h r h' = some (r, h') := by
  unfold gc; rw [if_pos (.inr hl)]
theorem gc_drop {r : AV} {h0 js : AH} (hm : r.mr ≤ h.length) (hs : gcS h h0) : gc h r (h0 ++ js) = some (r, h0) := by
  have hl := hs.1
  by_cases hj : js = []
  · subst hj; rw [List.append_nil]; exact gc_len (by omega)
  · have : 0 < js.length := List.length_pos_iff.2 hj
    unfold gc
    rw [if_neg (by simp; omega), if_pos]
    · rw [List.take_append_of_le_length (by omega), List.take_of_length_le (by omega)]
    · intro i hi
      rw [List.getElem?_append_left (by omega)]
      exact hs.2 i hi
theorem gc_drop1 {r : AV} {js : AH} (hm : r.mr = 0) : gc h r (h ++ js) = some (r, h) := gc_drop (by omega) gcS_refl
theorem gc_dropS {r : AV} {js : AH} {i : Nat} {b : Bx} (hm : r.mr = 0) (hb : mrB b = 0) : gc h r (h.set i b ++ js) = some (r, h.set i b) := gc_drop (by omega) (gcS_set gcS_refl (by omega))
theorem gc_nil {r : AV} (hm : r.mr = 0) : gc [] r h' = some (r, []) := by
  have := gc_drop (h := []) (h0 := []) (js := h') (r := r) (by omega) gcS_refl
  simpa using this
end
section
variable {k k' : IntKind} {a b : Int} {u v : AV} {h : AH}
theorem pick_t : pickV (.bool true) u v = some u.sh := rfl
theorem pick_f : pickV (.bool false) u v = some v.sh := rfl
theorem cInt_i : cIntV k (.int k' a) = some (.int k (k.wrap a)) := rfl
theorem cStr_s {s : ByteArray} : cStrV (.str s) = some (.str s) := rfl
theorem strBytes_s {s : ByteArray} : strBytesV (.str s) = some (.sl .sh (s.data.toList.map encB)) := rfl
theorem bytes_enc {m : Md} {l : List UInt8} : bytesV (.sl m (l.map encB)) = some (.str ⟨l.toArray⟩) := by simp only [bytesV, decB_enc, Option.map_some]
theorem faddr_r {o : Nat} {cs : List AV} : faddrV o (.ref cs) = some (.ref (cs.drop o)) := rfl
theorem faddr_b {o i off : Nat} : faddrV o (.box i off) = some (.box i (off + o)) := rfl
theorem lens_s {s : ByteArray} : lensV (.str s) = some (.int .i64 s.size) := rfl
theorem lenl_s {m : Md} {es : List (List AV)} : lenlV (.sl m es) = some (.int .i64 es.length) := rfl
theorem lenl_b {i o n : Nat} {c : Option Nat} : lenlV (.bs i o n c) = some (.int .i64 n) := rfl
theorem nilck_b {i o : Nat} : nilckV (.box i o) = some (.box i o) := rfl
theorem nilck_r {cs : List AV} : nilckV (.ref cs) = some (.ref cs) := rfl
theorem nilck_f {f : FuncId} {x y : List AV} : nilckV (.fn (.func f) x y) = some (.fn (.func f) x y) := rfl
theorem eqb_b {neg p q : Bool} : eqbV neg (.bool p) (.bool q) = some (.bool ((p == q) != neg)) := rfl
theorem isnil_np {neg : Bool} : isnilV .ptr neg .nilp = some (.bool (true != neg)) := rfl
theorem isnil_bx {neg : Bool} {i o : Nat} : isnilV .ptr neg (.box i o) = some (.bool (false != neg)) := rfl
theorem isnil_rf {neg : Bool} {cs : List AV} : isnilV .ptr neg (.ref cs) = some (.bool (false != neg)) := rfl
theorem isnil_ni {neg : Bool} : isnilV .ifc neg .nili = some (.bool (true != neg)) := rfl
theorem isnil_if {neg : Bool} {t : TypeId} {x : AV} : isnilV .ifc neg (.iface t x) = some (.bool (false != neg)) := rfl
theorem isnil_nm {neg : Bool} : isnilV .map neg .nilm = some (.bool (true != neg)) := rfl
theorem isnil_mp {neg : Bool} {i : Nat} : isnilV .map neg (.mp i) = some (.bool (false != neg)) := rfl
theorem isnil_nf {neg : Bool} : isnilV .fn neg .nilf = some (.bool (true != neg)) := rfl
theorem isnil_fn {neg : Bool} {f : Fn} {x y : List AV} : isnilV .fn neg (.fn f x y) = some (.bool (false != neg)) := rfl
theorem mnmx_mx : mnmxV true (.int k a) (.int k' b) = some (.int k (if b > a then b else a)) := rfl
theorem mnmx_mn : mnmxV false (.int k a) (.int k' b) = some (.int k (if b < a then b else a)) := rfl
theorem bin_shl (hb : 0 ≤ b) : binV .shl (.int k a) (.int k' b) = some (.int k (k.wrap (a * 2 ^ (min b.toNat (kb k))))) := by simp only [binV]; rw [if_pos hb]; rfl
theorem bin_shr (hb : 0 ≤ b) : binV .shr (.int k a) (.int k' b) = some (.int k (a.fdiv (2 ^ (min b.toNat (kb k))))) := by simp only [binV]; rw [if_pos hb]; rfl
theorem bin_add : binV .add (.int k a) (.int k b) = some (.int k (k.wrap (a + b))) := by simp only [binV, if_true]
theorem bin_sub : binV .sub (.int k a) (.int k b) = some (.int k (k.wrap (a - b))) := by simp only [binV, if_true]
theorem bin_mul : binV .mul (.int k a) (.int k b) = some (.int k (k.wrap (a * b))) := by simp only [binV, if_true]
theorem bin_quo (hb : b ≠ 0) : binV .quo (.int k a) (.int k b) = some (.int k (k.wrap (a.tdiv b))) := by simp only [binV]; rw [if_pos ⟨trivial, hb⟩]
theorem bin_rem (hb : b ≠ 0) : binV .rem (.int k a) (.int k b) = some (.int k (a.tmod b)) := by simp only [binV]; rw [if_pos ⟨trivial, hb⟩]
theorem bin_and : binV .and (.int k a) (.int k b) = some (.int k (k.wrap (BitVec.ofInt (kb k) a &&& BitVec.ofInt (kb k) b).toNat)) := by simp only [binV, if_true]; rfl
theorem bin_or : binV .or (.int k a) (.int k b) = some (.int k (k.wrap (BitVec.ofInt (kb k) a ||| BitVec.ofInt (kb k) b).toNat)) := by simp only [binV, if_true]; rfl
theorem bin_xor : binV .xor (.int k a) (.int k b) = some (.int k (k.wrap (BitVec.ofInt (kb k) a ^^^ BitVec.ofInt (kb k) b).toNat)) := by simp only [binV, if_true]; rfl
theorem bin_andNot : binV .andNot (.int k a) (.int k b) = some (.int k (k.wrap (BitVec.ofInt (kb k) a &&& ~~~ BitVec.ofInt (kb k) b).toNat)) := by simp only [binV, if_true]; rfl
theorem bin_eql : binV .eql (.int k a) (.int k b) = some (.bool (a == b)) := by simp only [binV, if_true]
theorem bin_neq : binV .neq (.int k a) (.int k b) = some (.bool (a != b)) := by simp only [binV, if_true]
theorem bin_lss : binV .lss (.int k a) (.int k b) = some (.bool (decide (a < b))) := by simp only [binV, if_true]
theorem bin_leq : binV .leq (.int k a) (.int k b) = some (.bool (decide (a ≤ b))) := by simp only [binV, if_true]
theorem bin_gtr : binV .gtr (.int k a) (.int k b) = some (.bool (decide (a > b))) := by simp only [binV, if_true]
theorem bin_geq : binV .geq (.int k a) (.int k b) = some (.bool (decide (a ≥ b))) := by simp only [binV, if_true]
variable {s t : ByteArray}
theorem bins_add (hl : ((s.size + t.size : Nat) : Int) ≤ 9223372036854775807) : binV .add (.str s) (.str t) = some (.str (s ++ t)) := by simp only [binV]; rw [if_pos hl]
theorem bins_eql : binV .eql (.str s) (.str t) = some (.bool (s.toList == t.toList)) := rfl
theorem bins_neq : binV .neq (.str s) (.str t) = some (.bool (!(s.toList == t.toList))) := rfl
theorem bins_lss : binV .lss (.str s) (.str t) = some (.bool (Op.bytesLess s.toList t.toList)) := rfl
theorem bins_leq : binV .leq (.str s) (.str t) = some (.bool (Op.bytesLess s.toList t.toList || s.toList == t.toList)) := rfl
theorem bins_gtr : binV .gtr (.str s) (.str t) = some (.bool (!(Op.bytesLess s.toList t.toList || s.toList == t.toList))) := rfl
theorem bins_geq : binV .geq (.str s) (.str t) = some (.bool (!Op.bytesLess s.toList t.toList)) := rfl
theorem un_not {p : Bool} : unV .not (.bool p) = some (.bool (!p)) := rfl
theorem un_neg : unV .neg (.int k a) = some (.int k (k.wrap (0 - a))) := rfl
theorem un_xor : unV .xor (.int k a) = some (.int k (k.wrap (BitVec.ofInt (kb k) (if k.signed then -1 else k.max) ^^^ BitVec.ofInt (kb k) a).toNat)) := rfl
variable {id off S N n : Nat} {cs : List AV} {i : Int} {es : List (List AV)} {m : Md}
theorem load_box {mm : Option Nat} : loadV mm h (.box id off) = loadB mm off h[id]? := rfl
def mapsh (o : Option AV) : Option AV := match o with | some c => some c.sh | none => none
theorem lb_none : loadB none off (some (.cells cs)) = mapsh cs[off]? := by simp only [loadB, mapsh]; cases cs[off]? <;> rfl
theorem msh_some {c : AV} : mapsh (some c) = some c.sh := rfl
theorem lb_some (hl : Nat.ble (off + n) cs.length = true) : loadB (some n) off (some (.cells cs)) = some (.agg (shL ((cs.drop off).take n))) := by simp only [loadB]; rw [if_pos (Nat.le_of_ble_eq_true hl)]
theorem load_ref : loadV none h (.ref cs) = headV cs := rfl
theorem head_cons {c : AV} : headV (c :: cs) = some c := rfl
theorem load_refs (hl : Nat.ble n cs.length = true) : loadV (some n) h (.ref cs) = some (.agg (cs.take n)) := by simp only [loadV]; rw [if_pos (Nat.le_of_ble_eq_true hl)]
theorem fld_one : fieldV none off (.agg cs) = mapsh cs[off]? := by simp only [fieldV, mapsh]; cases cs[off]? <;> rfl
theorem fld_agg (hl : Nat.ble (off + n) cs.length = true) : fieldV (some n) off (.agg cs) = some (.agg (shL ((cs.drop off).take n))) := by simp only [fieldV]; rw [if_pos (Nat.le_of_ble_eq_true hl)]
theorem el_some {e : List AV} (hl : e.length = S) : elemV S (some e) = some (.ref e) := by simp only [elemV]; rw [if_pos hl]
theorem ia_sl (h0 : 0 ≤ i) : iaddrV S none (.sl m es) (.int k i) = elemV S es[i.toNat]? := by simp only [iaddrV]; rw [if_pos ⟨trivial, h0⟩]
theorem ia_bs {len : Nat} {c : Option Nat} (h0 : 0 ≤ i) (h1 : i < len) : iaddrV S none (.bs id off len c) (.int k i) = some (.box id (off + i.toNat * S)) := by simp only [iaddrV]; rw [if_pos ⟨trivial, h0, h1⟩]
theorem ia_ref (h0 : 0 ≤ i) (h1 : i < N) : iaddrV S (some N) (.ref cs) (.int k i) = some (.ref (cs.drop (i.toNat * S))) := by simp only [iaddrV]; rw [if_pos ⟨h0, h1⟩]
theorem ia_box (h0 : 0 ≤ i) (h1 : i < N) : iaddrV S (some N) (.box id off) (.int k i) = some (.box id (off + i.toNat * S)) := by simp only [iaddrV]; rw [if_pos ⟨h0, h1⟩]
variable {lo hi M : Int}
theorem slc_none {l r : Option Int} (h0 : 0 ≤ l.getD 0) (h1 : l.getD 0 ≤ r.getD es.length) (h2 : r.getD es.length ≤ es.length) (h3 : szOK S es = true) :
    sliceV (some S) (.sl m es) (some l) (some r) (some none) = some (.sl (if m = .ex ∧ r.getD es.length = es.length then .ex else .sh) ((es.take (r.getD es.length).toNat).drop (l.getD 0).toNat)) := by
  cases r <;> simp only [sliceV] <;> rw [if_pos ⟨h0, h1, h2, h3⟩]
theorem slc_some {l : Option Int} (h0 : 0 ≤ l.getD 0) (h1 : l.getD 0 ≤ hi) (h2 : hi ≤ es.length) (h3 : szOK S es = true) (h4 : hi ≤ M) (h5 : M ≤ es.length) :
    sliceV (some S) (.sl m es) (some l) (some (some hi)) (some (some M)) = some (.sl (if M = hi then .ex else .sh) ((es.take hi.toNat).drop (l.getD 0).toNat)) := by
  simp only [sliceV]; rw [if_pos ⟨h0, h1, h2, h3, h4, h5⟩]
theorem slc_bs {len : Nat} {cap : Option Nat} {l r : Option Int} (h0 : 0 ≤ l.getD 0) (h1 : l.getD 0 ≤ r.getD len) (h2 : r.getD len ≤ len) :
    sliceV (some S) (.bs id off len cap) (some l) (some r) (some none) = some (.bs id (off + (l.getD 0).toNat * S) ((r.getD len).toNat - (l.getD 0).toNat) (cap.map fun c => c - (l.getD 0).toNat)) := by
  cases r <;> simp only [sliceV] <;> rw [if_pos ⟨h0, h1, h2⟩]
theorem slc_str {l r : Option Int} (h0 : 0 ≤ l.getD 0) (h1 : l.getD 0 ≤ r.getD s.size) (h2 : r.getD s.size ≤ s.size) :
    sliceV none (.str s) (some l) (some r) (some none) = some (.str (s.extract (l.getD 0).toNat (r.getD s.size).toNat)) := by
  simp only [sliceV]; rw [if_pos ⟨trivial, h0, h1, h2⟩]
theorem idxa_s {m : Option Nat} {S N : Nat} (h0 : 0 ≤ i ∧ i < N) : idxaV m S N (.agg cs) (.int k i) = fieldV m (i.toNat * S) (.agg cs) := by simp only [idxaV]; rw [if_pos h0]
theorem tass_n {i : TypeId} {z : AV} : tassV i z .nili = some (.tup [z, .bool false]) := rfl
theorem tass_y {i : TypeId} {z v : AV} : tassV i z (.iface i v) = some (.tup [v, .bool true]) := by simp [tassV]
theorem tass_o {i j : TypeId} {z v : AV} (hne : (j == i) = false) : tassV i z (.iface j v) = some (.tup [z, .bool false]) := by
  have : ¬ j = i := by simpa using hne
  simp [tassV, this]
theorem idx_s (h0 : 0 ≤ i) : idxsV (.str s) (.int k i) = byteV s[i.toNat]? := by simp only [idxsV]; rw [if_pos h0]
theorem by_some {b : UInt8} : byteV (some b) = some (.int .u8 b.toNat) := rfl
theorem nw_sl {fs : List (List AV)} : newsV false (.sl m fs) = some fs := rfl
theorem nw_str : newsV true (.str s) = some (s.data.toList.map encB) := rfl
theorem app_ok {bytes : Nat} {fs : List (List AV)} (h1 : (m != .sh || fs.isEmpty) = true) (h2 : szOK S es = true) (h3 : szOK S fs = true) (h4 : (es.length + fs.length) * bytes ≤ 140737488355328) (h5 : es.length + fs.length ≤ 9223372036854775807) :
    appV S bytes (.sl m es) (some fs) = some (appendR m es fs) := by
  simp only [appV]
  rw [if_pos ⟨fun hn => by
    simp only [Bool.or_eq_true, bne_iff_ne, ne_eq, List.isEmpty_iff] at h1
    rcases h1 with h1 | h1
    · exact h1
    · exact absurd h1 hn, h2, h3, h4, h5⟩]
theorem apR_nil : appendR m es [] = .sl m es := by simp [appendR]
theorem apR_cons {f : List AV} {fs : List (List AV)} : appendR m es (f :: fs) = .sl .own (es ++ f :: fs) := by simp [appendR]
def entsB : Option Bx → Option (List (AV × AV)) | some (.amap es) => some es | _ => none
def look2 (z : AV) (ok : Bool) (k : AV) (o : Option (List (AV × AV))) : Option AV := match o with | some es => (findA k es 0).map (lookR z ok) | none => none
def look3 (z : AV) (ok : Bool) (o : Option (Option (Nat × AV))) : Option AV := match o with | some r => some (lookR z ok r) | none => none
def lenm2 (o : Option (List (AV × AV))) : Option AV := match o with | some es => some (.int .i64 es.length) | none => none
def mputC (o : Option (List (AV × AV))) : Option Bx := match o with | some es => some (.amap es) | none => none
def eqs2 (neg : Bool) (o : Option Bool) : Option AV := match o with | some b => some (.bool (b != neg)) | none => none
theorem ents_mp {id : Nat} : entsA h (.mp id) = entsB h[id]? := by
  unfold entsA entsB
  simp only
  cases h[id]? with
  | none => rfl
  | some b => cases b <;> rfl
theorem ents_nil : entsA h .nilm = some [] := rfl
theorem entsB_some {es : List (AV × AV)} : entsB (some (.amap es)) = some es := rfl
theorem look_ok {dd : TypeDesc} {z m k : AV} {ok : Bool} (hk : keyD dd k = true) : lookV dd z ok h m k = look2 z ok k (entsA h m) := by
  simp only [lookV, look2]; rw [if_pos hk]; cases entsA h m <;> rfl
theorem look2_some {z k : AV} {ok : Bool} {es : List (AV × AV)} : look2 z ok k (some es) = look3 z ok (findA k es 0) := by
  simp only [look2, look3]; cases findA k es 0 <;> rfl
theorem look3_some {z : AV} {ok : Bool} {r : Option (Nat × AV)} : look3 z ok (some r) = some (lookR z ok r) := rfl
theorem lookR_ns {z : AV} : lookR z true none = .tup [z, .bool false] := rfl
theorem lookR_n {z : AV} : lookR z false none = z := rfl
theorem lookR_ss {z : AV} {p : Nat × AV} : lookR z true (some p) = .tup [p.2, .bool true] := rfl
theorem lookR_s {z : AV} {p : Nat × AV} : lookR z false (some p) = p.2 := rfl
theorem lenm_ok {m : AV} : lenmV h m = lenm2 (entsA h m) := by simp only [lenmV, lenm2]; cases entsA h m <;> rfl
theorem lenm2_some {es : List (AV × AV)} : lenm2 (some es) = some (.int .i64 es.length) := rfl
theorem mput_mp {dd : TypeDesc} {id : Nat} {k v : AV} (hk : keyD dd k = true) : mputV dd h k v (.mp id) = hput h id (mputB k v h[id]?) := by
  simp only [mputV, hput]; rw [if_pos hk]; cases mputB k v h[id]? <;> rfl
theorem mputB_some {k v : AV} {es : List (AV × AV)} : mputB k v (some (.amap es)) = mputC (mputE k v es) := by
  simp only [mputB, mputC]; cases mputE k v es <;> rfl
theorem mputC_some {es : List (AV × AV)} : mputC (some es) = some (.amap es) := rfl
theorem eqs_ok {neg : Bool} {idx : List (Nat × TypeDesc)} {cs ds : List AV} : eqsV neg idx (.agg cs) (.agg ds) = eqs2 neg (eqI cs ds idx) := by
  simp only [eqsV, eqs2]; cases eqI cs ds idx <;> rfl
theorem eqs2_some {neg b : Bool} : eqs2 neg (some b) = some (.bool (b != neg)) := rfl
theorem keyD_i {k k' : IntKind} {n : Int} : keyD (.int k) (.int k' n) = true := rfl
theorem keyD_s {s : ByteArray} : keyD .string (.str s) = true := rfl
theorem keyD_b {b : Bool} : keyD .bool (.bool b) = true := rfl
theorem mr_enc : ∀ (l : List UInt8), mrLL (l.map encB) = 0
  | [] => rfl
  | b :: l => by simp only [List.map_cons, mrLL, encB, mrL, AV.mr, mr_enc l]; rfl
theorem szOK_enc {l : List UInt8} : szOK 1 (l.map encB) = true := by cases l <;> rfl
theorem szOK_nil : szOK S [] = true := rfl
theorem szOK_cons {e : List AV} : szOK S (e :: es) = (e.length == S) := rfl
theorem bsl_ok {tok : Bool} {vs : List AV} (h1 : (!tok || !vs.isEmpty) = true) (h2 : allSz S vs = true) : bsliceV S tok vs = some (.sl (if tok then .own else .ex) (vs.map AV.cells)) := by
  simp only [bsliceV]; rw [if_pos ⟨fun ht => by subst ht; simpa using h1, h2⟩]; rfl
def bldO (o : Option (List AV)) : Option AV := match o with | some cs => some (.agg cs) | none => none
theorem build_o {z : List AV} {ps : List (Nat × Nat × AV)} : buildV z ps = bldO (fillA z ps) := by simp only [buildV, bldO]; cases fillA z ps <;> rfl
theorem bld_some : bldO (some cs) = some (.agg cs) := rfl
theorem fill_nil : fillA cs [] = some cs := rfl
theorem fill_cons {sz : Nat} {v : AV} {r : List (Nat × Nat × AV)} (h1 : v.cells.length = sz) (h2 : Nat.ble (off + sz) cs.length = true) (h3 : onesL v.cells = true) : fillA cs ((off, sz, v) :: r) = fillA (ovl cs off v.cells) r := by
  simp only [fillA]; rw [if_pos ⟨h1, Nat.le_of_ble_eq_true h2, h3⟩]
theorem st_box {v : AV} : storeV N h v (.box id off) = hput h id (storeB N off v h[id]?) := by simp only [storeV, hput]; cases storeB N off v h[id]? <;> rfl
theorem stB_some {v : AV} (h1 : Nat.ble (off + N) cs.length = true) (h2 : v.cells.length = N) (h3 : onesL v.cells = true) : storeB N off v (some (.cells cs)) = some (.cells (ovl cs off v.cells)) := by
  simp only [storeB]; rw [if_pos ⟨Nat.le_of_ble_eq_true h1, h2, h3⟩]
theorem clr_bs {z : List AV} {len : Nat} {cap : Option Nat} : clrV z h (.bs id off len cap) = hput h id (clrB z off len h[id]?) := by simp only [clrV, hput]; cases clrB z off len h[id]? <;> rfl
theorem clrB_some {z : List AV} {len : Nat} (h1 : off + len * z.length ≤ cs.length) : clrB z off len (some (.cells cs)) = some (.cells (ovl cs off (List.replicate len z).flatten)) := by
  simp only [clrB]; rw [if_pos h1]
theorem mks_ok {bytes : Nat} {z : List AV} {n c : Int} (h0 : 0 ≤ n) (h1 : n ≤ c) (h2 : c * bytes ≤ 140737488355328) (h3 : c ≤ 9223372036854775807) :
    mksliceV bytes z h (.int k n) (.int k' c) = some (.bs h.length 0 n.toNat (some c.toNat), h ++ [.cells (List.replicate c.toNat z).flatten]) := by simp only [mksliceV]; rw [if_pos ⟨h0, h1, h2, h3⟩]
end
section
variable {h : AH} {b c : Bx} {i : Nat} {js : AH}
theorem hp_get_new : (h ++ [b])[h.length]? = some b := by simp
theorem hp_get_old (hi : i < h.length) : (h ++ js)[i]? = h[i]? := List.getElem?_append_left hi
theorem hp_set_new : (h ++ [b]).set h.length c = h ++ [c] := by simp
theorem hp_set_old (hi : i < h.length) : (h ++ js).set i c = h.set i c ++ js := by rw [List.set_append_left _ _ hi]
theorem hp_get_set (hi : i < h.length) : (h.set i b)[i]? = some b := List.getElem?_set_self hi
theorem hp_len_app : (h ++ [b]).length = h.length + 1 := by simp
theorem hp_len_set : (h.set i b).length = h.length := by simp
theorem hp_set_set : (h.set i b).set i c = h.set i c := List.set_set ..
end
end Go.Proofs.YtibchilpaaiecaaGreatDoor.M
