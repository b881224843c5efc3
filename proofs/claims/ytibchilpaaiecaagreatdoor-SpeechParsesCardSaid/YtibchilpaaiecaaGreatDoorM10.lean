/- The compiled operations: what each does to slots and boxes, as a function; the laws that tie it to the machine's steps. -/
import Derived.Test.YtibchilpaaiecaaGreatDoorM9c
set_option linter.unusedVariables false
set_option linter.unusedSimpArgs false
namespace Go.Proofs.YtibchilpaaiecaaGreatDoor.M
open Go.RowKit
inductive COp where
 | mov (x : Opd)
 | take (x : Opd)
 | pick (c x y : Opd)
 | alloc (cs : List AV)
 | box (x : Opd)
 | load (m : Option Nat) (x : Opd)
 | ltake (x : Opd)
 | rbox (x : Opd)
 | store (N : Nat) (x y : Opd)
 | nilck (x : Opd)
 | bin (op : BinOp) (x y : Opd)
 | un (op : UnOp) (x : Opd)
 | cInt (k : IntKind) (x : Opd)
 | cStr (x : Opd)
 | cBytesStr (x : Opd)
 | cStrBytes (x : Opd)
 | faddr (off : Nat) (x : Opd)
 | iaddr (S : Nat) (arr : Option Nat) (x i : Opd)
 | idxs (x i : Opd)
 | idxa (m : Option Nat) (S N : Nat) (x i : Opd)
 | fld (m : Option Nat) (off : Nat) (x : Opd)
 | lens (x : Opd)
 | lenl (x : Opd)
 | extract (t i : Nat)
 | mkif (t : TypeId) (x : Opd)
 | tass (t : TypeId) (z : AV) (x : Opd)
 | mkfn (f : Fn) (x y : List Opd)
 | slice (S : Option Nat) (x : Opd) (lo hi mx : Option Opd)
 | append (S bytes : Nat) (str : Bool) (x y : Opd)
 | build (z : List AV) (ps : List (Nat × Nat × Opd))
 | bslice (S : Nat) (tok : Bool) (xs : List Opd)
 | bconv (x : Opd)
 | eqb (neg : Bool) (x y : Opd)
 | isnil (k : NK) (neg : Bool) (x : Opd)
 | slnil (neg : Bool) (x : Opd)
 | mnmx (mx : Bool) (x y : Opd)
 | mkslice (bytes : Nat) (z : List AV) (n c : Opd)
 | mkmap
 | look (d : TypeDesc) (z : AV) (ok : Bool) (x k : Opd)
 | lenm (x : Opd)
 | mput (d : TypeDesc) (m k v : Opd)
 | clr (z : List AV) (x : Opd)
 | eqs (neg : Bool) (idx : List (Nat × TypeDesc)) (x y : Opd)
 | call (f : FuncId) (args : List Opd)
 | pcall (f : FuncId) (args : List Opd)
 | callv (x : Opd) (args : List Opd)
 | stuck
 deriving Inhabited
structure CO where
 dst : Option Nat
 op : COp
 guard : Option (Nat × Bool)
 deriving Inhabited
abbrev tP (n : Nat) : Opd := .tmp n
abbrev oN (d : Nat) (x : COp) : CO := ⟨some d, x, none⟩
abbrev oG (d : Nat) (x : COp) (s : Nat) (b : Bool) : CO := ⟨some d, x, some (s, b)⟩
abbrev mV (d s : Nat) : CO := ⟨some d, .mov (.tmp s), none⟩
abbrev lD (d s : Nat) : CO := ⟨some d, .load none (.tmp s), none⟩
abbrev Up := List (Nat × AV)
def lU (ev : Opd → AV) : Opd → Up
 | .tmp t => [(t, (ev (.tmp t)).sh)]
 | .con _ => []
def putU (d : Option Nat) (v : AV) : Up := match d with | some d => [(d, v)] | none => []
def putL (σ : List AV) : Up → List AV
 | [] => σ
 | p :: u => putL (σ.set p.1 p.2) u
def szOK (S : Nat) (es : List (List AV)) : Bool := match es with | [] => true | e :: _ => e.length == S
def yq : AV → AV → AV → Option AV
 | .bool b, x, y => some (if b then x.sh else y.sh)
 | _, _, _ => none
def CI : List AV → Option AV
 | [] => none
 | c :: _ => some c
def tF (m : Option Nat) (off : Nat) : Option Bx → Option AV
 | some (.cells cs) => match m with
  | none => (cs[off]?).map AV.sh
  | some k => if off + k ≤ cs.length then some (.agg (shL ((cs.drop off).take k))) else none
 | _ => none
def ld (m : Option Nat) (h : AH) : AV → Option AV
 | .ref cs => match m with
  | none => CI cs
  | some k => if k ≤ cs.length then some (.agg (cs.take k)) else none
 | .box id off => tF m off h[id]?
 | _ => none
def nO (off : Nat) : Option Bx → Option (AV × Bx)
 | some (.cells cs) => match cs[off]? with | some c => some (c, .cells (cs.set off c.sh)) | none => none
 | _ => none
def wB (h : AH) : AV → Option (AV × AH)
 | .box id off => match nO off h[id]? with | some (c, b) => some (c, h.set id b) | none => none
 | _ => none
def yr (v : AV) : Option AV := if aM v.cells = true then some (.ref (shL v.cells)) else none
def oS : AV → Option AV
 | .box i o => some (.box i o)
 | .ref cs => some (.ref cs)
 | .fn (.func f) x y => some (.fn (.func f) x y)
 | _ => none
def binV (op : BinOp) : AV → AV → Option AV
 | .int k a, .int k' b =>
  match op with
  | .shl => if 0 ≤ b then some (.int k (k.wrap (a * 2 ^ (min b.toNat k.bits)))) else none
  | .shr => if 0 ≤ b then some (.int k (a.fdiv (2 ^ (min b.toNat k.bits)))) else none
  | .add => if k = k' then some (.int k (k.wrap (a + b))) else none
  | .sub => if k = k' then some (.int k (k.wrap (a - b))) else none
  | .mul => if k = k' then some (.int k (k.wrap (a * b))) else none
  | .quo => if k = k' ∧ b ≠ 0 then some (.int k (k.wrap (a.tdiv b))) else none
  | .rem => if k = k' ∧ b ≠ 0 then some (.int k (a.tmod b)) else none
  | .and => if k = k' then some (.int k (k.wrap (BitVec.ofInt k.bits a &&& BitVec.ofInt k.bits b).toNat)) else none
  | .or => if k = k' then some (.int k (k.wrap (BitVec.ofInt k.bits a ||| BitVec.ofInt k.bits b).toNat)) else none
  | .xor => if k = k' then some (.int k (k.wrap (BitVec.ofInt k.bits a ^^^ BitVec.ofInt k.bits b).toNat)) else none
  | .andNot => if k = k' then some (.int k (k.wrap (BitVec.ofInt k.bits a &&& ~~~ BitVec.ofInt k.bits b).toNat)) else none
  | .eql => if k = k' then some (.bool (a == b)) else none
  | .neq => if k = k' then some (.bool (a != b)) else none
  | .lss => if k = k' then some (.bool (decide (a < b))) else none
  | .leq => if k = k' then some (.bool (decide (a ≤ b))) else none
  | .gtr => if k = k' then some (.bool (decide (a > b))) else none
  | .geq => if k = k' then some (.bool (decide (a ≥ b))) else none
 | .str a, .str b =>
  match op with
  | .add => if ((a.size + b.size : Nat) : Int) ≤ 9223372036854775807 then some (.str (a ++ b)) else none
  | .eql => some (.bool (a.toList == b.toList))
  | .neq => some (.bool (!(a.toList == b.toList)))
  | .lss => some (.bool (Op.bytesLess a.toList b.toList))
  | .leq => some (.bool (Op.bytesLess a.toList b.toList || a.toList == b.toList))
  | .gtr => some (.bool (!(Op.bytesLess a.toList b.toList || a.toList == b.toList)))
  | .geq => some (.bool (!Op.bytesLess a.toList b.toList))
  | _ => none
 | _, _ => none
def unV (op : UnOp) : AV → Option AV
 | .bool b => match op with | .not => some (.bool (!b)) | _ => none
 | .int k n => match op with
  | .neg => some (.int k (k.wrap (0 - n)))
  | .xor => some (.int k (k.wrap (BitVec.ofInt k.bits (if k.signed then -1 else k.max) ^^^ BitVec.ofInt k.bits n).toNat))
  | _ => none
 | _ => none
def zx (k : IntKind) : AV → Option AV | .int _ i => some (.int k (k.wrap i)) | _ => none
def FJ : AV → Option AV | .str b => some (.str b) | _ => none
def decB : List (List AV) → Option (List UInt8)
 | [] => some []
 | [.int .u8 n] :: r => if 0 ≤ n ∧ n < 256 then (decB r).map (UInt8.ofNat n.toNat :: ·) else none
 | _ => none
def oT : AV → Option AV
 | .sl _ es => (decB es).map fun bs => .str ⟨bs.toArray⟩
 | _ => none
def mA : AV → Option AV | .str b => some (.sl .sh (b.data.toList.map encB)) | _ => none
def qH (off : Nat) : AV → Option AV
 | .ref cs => some (.ref (cs.drop off))
 | .box id o => some (.box id (o + off))
 | _ => none
def elemV (S : Nat) : Option (List AV) → Option AV
 | some e => if e.length = S then some (.ref e) else none
 | none => none
def mB (S : Nat) (arr : Option Nat) : AV → AV → Option AV
 | .sl _ es, .int _ i => if arr = none ∧ 0 ≤ i then elemV S es[i.toNat]? else none
 | .bs id off len _, .int _ i => if arr = none ∧ 0 ≤ i ∧ i < len then some (.box id (off + i.toNat * S)) else none
 | .ref cs, .int _ i => match arr with | some N => if 0 ≤ i ∧ i < N then some (.ref (cs.drop (i.toNat * S))) else none | none => none
 | .box id off, .int _ i => match arr with | some N => if 0 ≤ i ∧ i < N then some (.box id (off + i.toNat * S)) else none | none => none
 | _, _ => none
def wC (m : Option Nat) (off : Nat) : AV → Option AV
 | .agg cs => match m with
  | none => (cs[off]?).map AV.sh
  | some k => if off + k ≤ cs.length then some (.agg (shL ((cs.drop off).take k))) else none
 | _ => none
def FK : Option UInt8 → Option AV | some b => some (.int .u8 b.toNat) | none => none
def zy : AV → AV → Option AV
 | .str s, .int _ i => if 0 ≤ i then FK s[i.toNat]? else none
 | _, _ => none
def IV (m : Option Nat) (S N : Nat) : AV → AV → Option AV
 | .agg cs, .int _ i => if 0 ≤ i ∧ i < N then wC m (i.toNat * S) (.agg cs) else none
 | _, _ => none
def CJ : AV → Option AV | .str s => some (.int .i64 s.size) | _ => none
def yt : AV → Option AV
 | .sl _ es => some (.int .i64 es.length)
 | .bs _ _ len _ => some (.int .i64 len)
 | _ => none
def bndE (ev : Opd → AV) : Option Opd → Option (Option Int)
 | none => some none
 | some y => match ev y with | .int _ i => some (some i) | _ => none
def cV (S : Option Nat) : AV → Option (Option Int) → Option (Option Int) → Option (Option Int) → Option AV
 | .str s, some lo, some hi, some none => if S = none ∧ 0 ≤ lo.getD 0 ∧ lo.getD 0 ≤ hi.getD s.size ∧ hi.getD s.size ≤ s.size then some (.str (s.extract (lo.getD 0).toNat (hi.getD s.size).toNat)) else none
 | .sl m es, some lo, some hi, some none => match S with
  | some S => if 0 ≤ lo.getD 0 ∧ lo.getD 0 ≤ hi.getD es.length ∧ hi.getD es.length ≤ es.length ∧ szOK S es = true then some (.sl (if m = .ex ∧ hi.getD es.length = es.length then .ex else .sh) ((es.take (hi.getD es.length).toNat).drop (lo.getD 0).toNat)) else none
  | none => none
 | .sl m es, some lo, some (some hi), some (some M) => match S with
  | some S => if 0 ≤ lo.getD 0 ∧ lo.getD 0 ≤ hi ∧ hi ≤ es.length ∧ szOK S es = true ∧ hi ≤ M ∧ M ≤ es.length then some (.sl (if M = hi then .ex else .sh) ((es.take hi.toNat).drop (lo.getD 0).toNat)) else none
  | none => none
 | .bs id off len cap, some lo, some hi, some none => match S with
  | some S => if 0 ≤ lo.getD 0 ∧ lo.getD 0 ≤ hi.getD len ∧ hi.getD len ≤ len then some (.bs id (off + (lo.getD 0).toNat * S) ((hi.getD len).toNat - (lo.getD 0).toNat) (cap.map fun c => c - (lo.getD 0).toNat)) else none
  | none => none
 | _, _, _, _ => none
def rF (str : Bool) : AV → Option (List (List AV))
 | .sl _ fs => if str then none else some fs
 | .str s => if str then some (s.data.toList.map encB) else none
 | _ => none
def appV (S bytes : Nat) : AV → Option (List (List AV)) → Option AV
 | .sl m es, some fs => if (fs ≠ [] → m ≠ .sh) ∧ szOK S es = true ∧ szOK S fs = true ∧ (es.length + fs.length) * bytes ≤ 140737488355328 ∧ es.length + fs.length ≤ 9223372036854775807 then some (ib m es fs) else none
 | _, _ => none
def yu (S : Nat) : List AV → Bool
 | [] => true
 | v :: vs => v.cells.length == S && aM v.cells && yu S vs
def oU (S : Nat) (tok : Bool) (vs : List AV) : Option AV := if (tok = true → vs ≠ []) ∧ yu S vs = true then some (vq tok vs) else none
def qI (z : List AV) (ps : List (Nat × Nat × AV)) : Option AV := (nt z ps).map .agg
def wD : AV → Option AV | .sl .own es => some (.sl .sh es) | _ => none
def eqbV (neg : Bool) : AV → AV → Option AV
 | .bool a, .bool b => some (.bool ((a == b) != neg))
 | _, _ => none
def qJ (k : NK) (neg : Bool) : AV → Option AV
 | .nilp => if k = .ptr then some (.bool (true != neg)) else none
 | .box _ _ | .ref _ => if k = .ptr then some (.bool (false != neg)) else none
 | .nili => if k = .ifc then some (.bool (true != neg)) else none
 | .iface _ _ => if k = .ifc then some (.bool (false != neg)) else none
 | .nilm => if k = .map then some (.bool (true != neg)) else none
 | .mp _ => if k = .map then some (.bool (false != neg)) else none
 | .nilf => if k = .fn then some (.bool (true != neg)) else none
 | .fn _ _ _ => if k = .fn then some (.bool (false != neg)) else none
 | _ => none
def wE (neg : Bool) : AV → Option AV
 | .sl _ (_ :: _) => some (.bool (false != neg))
 | _ => none
def FL (mx : Bool) : AV → AV → Option AV
 | .int k a, .int _ b => some (.int k (if mx then (if b > a then b else a) else (if b < a then b else a)))
 | _, _ => none
def vA (t : TypeId) (z : AV) : AV → Option AV
 | .nili => some (.tup [z, .bool false])
 | .iface t' v => if t' = t then some (.tup [v, .bool true]) else some (.tup [z, .bool false])
 | _ => none
def oe (t i : Nat) (d : Option Nat) : AV → Option Up
 | .tup cs => match cs[i]? with | some c => some ((t, .tup (cs.set i c.sh)) :: putU d c) | none => none
 | _ => none
def oV (N off : Nat) (v : AV) : Option Bx → Option Bx
 | some (.cells cs) => if off + N ≤ cs.length ∧ v.cells.length = N ∧ aM v.cells = true then some (.cells (ovl cs off v.cells)) else none
 | _ => none
def lN (N : Nat) (h : AH) (v : AV) : AV → Option AH
 | .box id off => (oV N off v h[id]?).map fun b => h.set id b
 | _ => none
def clrB (z : List AV) (off len : Nat) : Option Bx → Option Bx
 | some (.cells cs) => if off + len * z.length ≤ cs.length then some (.cells (ovl cs off (List.replicate len z).flatten)) else none
 | _ => none
def clrV (z : List AV) (h : AH) : AV → Option AH
 | .bs id off len _ => (clrB z off len h[id]?).map fun b => h.set id b
 | _ => none
def rG (bytes : Nat) (z : List AV) (h : AH) : AV → AV → Option (AV × AH)
 | .int _ n, .int _ c => if 0 ≤ n ∧ n ≤ c ∧ c * bytes ≤ 140737488355328 ∧ c ≤ 9223372036854775807 then some (.bs h.length 0 n.toNat (some c.toNat), h ++ [.cells (List.replicate c.toNat z).flatten]) else none
 | _, _ => none
def val (d : Option Nat) (h : AH) (o : Option AV) : Option (Up × AH) := o.map fun v => (putU d v, h)
def xop (op : COp) (d : Option Nat) (ev : Opd → AV) (h : AH) : Option (Up × AH) :=
 match op with
 | .mov x => some (putU d (ev x).sh, h)
 | .take x => some (lU ev x ++ putU d (ev x), h)
 | .pick c x y => val d h (yq (ev c) (ev x) (ev y))
 | .alloc cs => some (putU d (.box h.length 0), h ++ [.cells cs])
 | .box x => if aM (ev x).cells = true then some (lU ev x ++ putU d (.box h.length 0), h ++ [.cells (ev x).cells]) else none
 | .load m x => val d h (ld m h (ev x))
 | .ltake x => (wB h (ev x)).map fun r => (putU d r.1, r.2)
 | .rbox x => val d h (yr (ev x))
 | .store N x y => if d = none then (lN N h (ev y) (ev x)).map fun h' => (lU ev y, h') else none
 | .nilck x => val d h (oS (ev x))
 | .bin op x y => val d h (binV op (ev x) (ev y))
 | .un op x => val d h (unV op (ev x))
 | .cInt k x => val d h (zx k (ev x))
 | .cStr x => val d h (FJ (ev x))
 | .cBytesStr x => val d h (oT (ev x))
 | .cStrBytes x => val d h (mA (ev x))
 | .faddr off x => val d h (qH off (ev x))
 | .iaddr S arr x i => val d h (mB S arr (ev x) (ev i))
 | .idxs x i => val d h (zy (ev x) (ev i))
 | .idxa m S N x i => val d h (IV m S N (ev x) (ev i))
 | .fld m off x => val d h (wC m off (ev x))
 | .lens x => val d h (CJ (ev x))
 | .lenl x => val d h (yt (ev x))
 | .extract t i => (oe t i d (ev (.tmp t))).map fun u => (u, h)
 | .mkif t x => some (putU d (.iface t (ev x).sh), h)
 | .tass t z x => val d h (vA t z (ev x))
 | .mkfn f x y => some (putU d (.fn f (shL (x.map ev)) (shL (y.map ev))), h)
 | .slice S x lo hi mx => val d h (cV S (ev x) (bndE ev lo) (bndE ev hi) (bndE ev mx))
 | .append S bytes str x y => (appV S bytes (ev x) (rF str (ev y))).map fun v => (lU ev x ++ putU d v, h)
 | .build z ps => val d h (qI z (shP ev ps))
 | .bslice S tok xs => val d h (oU S tok (xs.map fun x => (ev x).sh))
 | .bconv x => (wD (ev x)).map fun v => (lU ev x ++ putU d v, h)
 | .eqb neg x y => val d h (eqbV neg (ev x) (ev y))
 | .isnil k neg x => val d h (qJ k neg (ev x))
 | .slnil neg x => val d h (wE neg (ev x))
 | .mnmx mx x y => val d h (FL mx (ev x) (ev y))
 | .mkslice bytes z n c => (rG bytes z h (ev n) (ev c)).map fun r => (putU d r.1, r.2)
 | .mkmap => some (putU d (.mp h.length), h ++ [.amap []])
 | .look dd z ok m k => val d h (yl dd z ok h (ev m) (ev k))
 | .lenm m => val d h (ym h (ev m))
 | .mput dd m k v => if d = none then (FF dd h (ev k) (ev v).sh (ev m)).map fun h' => ([], h') else none
 | .clr z x => if d = none then (clrV z h (ev x)).map fun h' => ([], h') else none
 | .eqs neg idx x y => val d h (eqsV neg idx (ev x) (ev y))
 | .call _ _ | .pcall _ _ | .callv _ _ | .stuck => none
mutual
def AV.mr : AV → Nat
 | .box id _ => id + 1
 | .mp id => id + 1
 | .bs id _ _ _ => id + 1
 | .ref cs => mrL cs
 | .sl _ es => mrLL es
 | .agg cs => mrL cs
 | .tup cs => mrL cs
 | .iface _ v => v.mr
 | .fn _ a b => max (mrL a) (mrL b)
 | _ => 0
def mrL : List AV → Nat
 | [] => 0
 | c :: cs => max c.mr (mrL cs)
def mrLL : List (List AV) → Nat
 | [] => 0
 | e :: es => max (mrL e) (mrLL es)
end
def mrM : List (AV × AV) → Nat
 | [] => 0
 | (k, v) :: r => max (max k.mr v.mr) (mrM r)
def mrB : Bx → Nat
 | .cells cs => mrL cs
 | .amap es => mrM es
 | .dead => 0
def dx (P : Program) (f : FuncId) : Prop := ∃ fn, P.funcs[f]? = some fn ∧ fn.body.isSome = true ∧ (fn.name == "runtime.NumGoroutine") = false
def eU (P : Program) (f : FuncId) (args : List AV) (h : AH) (K : AV → AH → Prop) : Prop := dx P f ∧ Spec P f args h K ∧ ∃ r h', K r h'
theorem eU.mono {P : Program} {f : FuncId} {args : List AV} {h : AH} {K K' : AV → AH → Prop} (hc : eU P f args h K) (hk : ∀ r h', K r h' → K' r h') : eU P f args h K' :=
 ⟨hc.1, hc.2.1.mono hk, let ⟨r, h', k⟩ := hc.2.2; ⟨r, h', hk r h' k⟩⟩
def bZ (op : COp) (ev : Opd → AV) : Option (FuncId × List AV × Bool) :=
 match op with
 | .call f args => some (f, shL (args.map ev), false)
 | .pcall f args => some (f, shL (args.map ev), true)
 | .callv x args => match ev x with | .fn (.func f) a b => some (f, shL (a ++ args.map ev ++ b), false) | _ => none
 | _ => none
def fk : COp → Bool | .call _ _ | .pcall _ _ | .callv _ _ => true | _ => false
def isP : COp → Bool | .pcall _ _ => true | _ => false
def PW (P : Program) (f : FuncId) (args : List AV) (pure : Bool) (h : AH) (K : AV → AH → Prop) : Prop :=
 match pure with
 | false => eU P f args h K
 | true => mrL args = 0 ∧ eU P f args [] (fun r h' => h' = [] ∧ K r h)
theorem PW.mono {P : Program} {f : FuncId} {args : List AV} {p : Bool} {h : AH} {K K' : AV → AH → Prop} (hc : PW P f args p h K) (hk : ∀ r h', K r h' → K' r h') : PW P f args p h K' := by
 cases p
 ·exact eU.mono hc hk
 ·exact ⟨hc.1, hc.2.mono fun r h' x => ⟨x.1, hk _ _ x.2⟩⟩
theorem PW.some_ {P : Program} {f : FuncId} {args : List AV} {p : Bool} {h : AH} {K : AV → AH → Prop} (hc : PW P f args p h K) : ∃ r h', K r h' := by
 cases p
 ·exact hc.2.2
 ·obtain ⟨r, h', hk⟩ := hc.2.2.2; exact ⟨r, h, hk.2⟩
def Wu (P : Program) (op : COp) (d : Option Nat) (ev : Opd → AV) (h : AH) (K : Up → AH → Prop) : Prop :=
 if fk op = true then ∃ f args p, bZ op ev = some (f, args, p) ∧ PW P f args p h (fun r h' => K (putU d r) h')
 else ∃ r, xop op d ev h = some r ∧ K r.1 r.2
def Wop (P : Program) (op : COp) (d : Option Nat) (σ : List AV) (h : AH) (K : List AV → AH → Prop) : Prop := Wu P op d (ag σ) h (fun u h' => K (putL σ u) h')
def szOf (P : Program) (t : TypeId) : Option Nat := (P.info? t).map (·.size)
def varOf (P : Program) (t : TypeId) : Option (Option Nat) :=
 match P.underlying t with
 | some d => if wk d then (szOf P t).map some else some Option.none
 | none => Option.none
def oW : Option Operand → Option (Option Opd)
 | none => some none
 | some x => match aB x with | some y => some (some y) | none => none
def wF (P : Program) (s d : TypeId) (x : Opd) : Option COp :=
 match P.underlying s, P.underlying d with
 | some _, some (.int k) => some (.cInt k x)
 | some (.slice e), some .string => match P.underlying e with | some (.int .u8) => some (.cBytesStr x) | _ => none
 | some .string, some .string => some (.cStr x)
 | some .string, some (.slice e) => match P.underlying e with | some (.int .u8) => some (.cStrBytes x) | _ => none
 | some (.slice _), some (.slice e) => if s = d then (match P.underlying e with | some (.int .u8) => some (.bconv x) | _ => none) else none
 | _, _ => none
def zA (P : Program) : List Operand → List TypeId → Option COp
 | [x], [t] => match P.underlying t, aB x with
  | some .string, some y => some (.lens y)
  | some (.slice _), some y => some (.lenl y)
  | some (.map _ _), some y => some (.lenm y)
  | _, _ => none
 | _, _ => none
def zB (P : Program) : List Operand → List TypeId → Option COp
 | [x, y], [t, u] => match P.underlying t, P.underlying u, aB x, aB y with
  | some (.slice e), some d, some x, some y => match P.info? e with
   | some i => match i.zero with
    | some z => if z.cells.size = i.size ∧ 0 < i.size then (match d with | .string => some (.append i.size i.bytes true x y) | .slice _ => some (.append i.size i.bytes false x y) | _ => none) else none
    | none => none
   | none => none
  | _, _, _, _ => none
 | _, _ => none
def zD (P : Program) : List Operand → List TypeId → Option COp
 | [x], [t] => match P.underlying t, aB x with
  | some (.slice e), some y => match P.info? e with
   | some i => match i.zero with
    | some z => match litC z with
     | some cs => some (.clr cs y)
     | none => none
    | none => none
   | none => none
  | _, _ => none
 | _, _ => none
def qK (mx : Bool) : List Operand → Option COp
 | [x, y] => match aB x, aB y with | some x, some y => some (.mnmx mx x y) | _, _ => none
 | _ => none
def rH (P : Program) (mv : Bool) (c : Call) : Option COp :=
 match c.callee with
 | .builtin .len => zA P c.args.toList c.argTypes.toList
 | .builtin .append => zB P c.args.toList c.argTypes.toList
 | .builtin .min => qK false c.args.toList
 | .builtin .max => qK true c.args.toList
 | .builtin .clear => zD P c.args.toList c.argTypes.toList
 | .value (.func f) => match c.args.toList.mapM aB with | some args => some (if mv then .pcall f args else .call f args) | none => none
 | .value (.tmp t) => match c.args.toList.mapM aB with | some args => some (.callv (.tmp t) args) | none => none
 | _ => none
def eqOp : BinOp → Option Bool
 | .eql => some false
 | .neq => some true
 | _ => none
def wG (P : Program) (op : BinOp) (d : TypeDesc) (x y : Operand) : Option COp :=
 match eqOp op with
 | none => none
 | some neg => match d with
  | .bool => match aB x, aB y with | some x, some y => some (.eqb neg x y) | _, _ => none
  | .slice _ => if nilO d y then (match aB x with | some x => some (.slnil neg x) | none => none) else if nilO d x then (match aB y with | some y => some (.slnil neg y) | none => none) else none
  | d => match nkOf d with
   | none => none
   | some k => if nilO d y then (match aB x with | some x => some (.isnil k neg x) | none => none) else if nilO d x then (match aB y with | some y => some (.isnil k neg y) | none => none) else none
def CK (z : Value) : Option AV := match lit z with | some a => some a | none => (match z with | .agg vs => (litL vs.toList).map .agg | _ => none)
theorem wH {g : Gh} {z : Value} {za : AV} (h : CK z = some za) : VR g za z ∧ za.cl = true := by
 unfold CK at h
 split at h
 ·rename_i a ha; cases h; exact ⟨(tm (g := g) ha).1, (tm (g := g) ha).2.1⟩
 ·split at h <;> try (cases h; done)
  rename_i vs _
  simp only [Option.map_eq_some_iff] at h
  obtain ⟨as, h1, rfl⟩ := h
  obtain ⟨q1, q2, q3⟩ := u5 (g := g) h1
  exact ⟨by simp only [VR]; exact ⟨vs, rfl, q1, q3⟩, by simpa only [AV.cl] using q2⟩
def IW : TypeDesc → Bool | .interface _ => true | _ => false
def oX (P : Program) (mv : Bool) (op : Op) : Option COp :=
 match op with
 | .move x => match aB x with | some y => some (if mv then .take y else .mov y) | none => none
 | .assign x => match aB x with | some y => some (if mv then .take y else .mov y) | none => none
 | .pick c x y => match aB c, aB x, aB y with | some c, some x, some y => some (.pick c x y) | _, _, _ => none
 | .alloc e => match P.info? e with
  | some i => match i.zero with
   | some z => match litC z with
    | some cs => some (.alloc cs)
    | none => none
   | none => none
  | none => none
 | .box e x => match aB x with | some y => some (if mv then .rbox y else .box y) | none => none
 | .load t x => match varOf P t, aB x with | some m, some y => some (if mv && m.isNone then .ltake y else .load m y) | _, _ => none
 | .store t x v => match szOf P t, aB x, aB v with | some N, some x, some v => some (.store N x v) | _, _, _ => none
 | .nilCheck x => match aB x with | some y => some (.nilck y) | none => none
 | .binOp op t x y _ => match P.underlying t, aB x, aB y with
  | some (.int _), some x, some y => some (.bin op x y)
  | some .string, some x, some y => some (.bin op x y)
  | some (.struct _), some x, some y => match eqOp op, zu P t with | some neg, some idx => some (.eqs neg idx x y) | _, _ => none
  | some d, _, _ => wG P op d x y
  | _, _, _ => none
 | .unOp op _ x => match aB x with | some y => some (.un op y) | none => none
 | .convert s d x => match aB x with | some y => wF P s d y | none => none
 | .fieldAddr s x f => match P.underlying s, aB x with
  | some (.struct fs), some y => match fs[f]? with
   | some fd => match szOf P fd.type with | some (k + 1) => some (.faddr fd.offset y) | _ => none
   | none => none
  | _, _ => none
 | .field s x f => match P.underlying s, aB x with
  | some (.struct fs), some y => match fs[f]? with
   | some fd => match varOf P fd.type with | some m => some (.fld m fd.offset y) | none => none
   | none => none
  | _, _ => none
 | .indexAddr t x i => match P.underlying t, aB x, aB i with
  | some (.slice e), some x, some i => match szOf P e with | some S => some (.iaddr S none x i) | none => none
  | some (.array n e), some x, some i => match szOf P e with | some (S + 1) => some (.iaddr (S + 1) (some n) x i) | _ => none
  | _, _, _ => none
 | .index t x i => match P.underlying t, aB x, aB i with
  | some .string, some x, some i => some (.idxs x i)
  | some (.array n e), some x, some i => match szOf P e, varOf P e with | some S, some m => some (.idxa m S n x i) | _, _ => none
  | _, _, _ => none
 | .extract (.tmp t) i => some (.extract t i)
 | .makeInterface t x => match P.underlying t, aB x with
  | some (.interface _), _ => none
  | some _, some y => some (.mkif t y)
  | _, _ => none
 | .makeFunc (.func f) a b => match a.toList.mapM aB, b.toList.mapM aB with | some a, some b => some (.mkfn (.func f) a b) | _, _ => none
 | .slice t x lo hi mx => match P.underlying t, aB x, oW lo, oW hi, oW mx with
  | some .string, some x, some lo, some hi, some none => some (.slice none x lo hi none)
  | some (.slice e), some x, some lo, some hi, some mx => match szOf P e with | some S => some (.slice (some S) x lo hi mx) | none => none
  | _, _, _, _, _ => none
 | .build t parts => match my P t parts.toList with | some (z, ps) => some (.build z ps) | none => none
 | .buildSlice t len parts => match nv P t len parts.toList with | some (S, xs) => some (.bslice S (mv && !xs.isEmpty) xs) | none => none
 | .makeSlice t n c => match P.underlying t, aB n, aB c with
  | some (.slice e), some n, some c => match P.info? e with
   | some i => match i.zero with
    | some z => match litC z with
     | some cs => if cs.length = i.size then some (.mkslice i.bytes cs n c) else none
     | none => none
    | none => none
   | none => none
  | _, _, _ => none
 | .makeMap _ none => some .mkmap
 | .lookup t x i ok => match P.underlying t, aB x, aB i with
  | some (.map kt et), some x, some i => match P.underlying kt, P.info? et with
   | some d, some inf => match inf.zero with
    | some z => match CK z with
     | some za => some (.look d za ok x i)
     | none => none
    | none => none
   | _, _ => none
  | _, _, _ => none
 | .mapUpdate t m k x => match P.underlying t, aB m, aB k, aB x with
  | some (.map kt _), some m, some k, some x => match P.underlying kt with | some d => some (.mput d m k x) | none => none
  | _, _, _, _ => none
 | .typeAssert x _ t true => match P.underlying t with
  | some d => if IW d then none else match P.info? t, aB x with
   | some inf, some y => match inf.zero with
    | some z => match CK z with
     | some za => some (.tass t za y)
     | none => none
    | none => none
   | _, _ => none
  | none => none
 | .call c => rH P mv c
 | _ => none
def iS (ops : Array Oper) : Option (Nat × Bool) → Option (Option (Nat × Bool))
 | none => some none
 | some (j, want) => match (ops[j]?).bind (·.dst) with | some s => some (some (s, want)) | none => none
def eY (P : Program) (ops : Array Oper) (mvs : List Nat) : Nat → List Oper → Option (List CO)
 | _, [] => some []
 | i, o :: rest => match oX P (mvs.contains i) o.op, iS ops o.guard, eY P ops mvs (i + 1) rest with
  | some op, some gd, some l => some (⟨o.dst, op, gd⟩ :: l)
  | _, _, _ => none
end Go.Proofs.YtibchilpaaiecaaGreatDoor.M
