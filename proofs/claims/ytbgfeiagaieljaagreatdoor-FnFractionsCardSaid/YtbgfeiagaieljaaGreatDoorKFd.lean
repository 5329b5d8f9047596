/- Texts of a claim, in one: part 4. -/
import Derived.Test.YtbgfeiagaieljaaGreatDoorKFc
/- A logic over the pure machine: its values told as trees of elements, without addresses; what is still written, as rows. Definitions alone. -/
set_option linter.unusedSimpArgs false
set_option linter.unusedVariables false
namespace Go.PM
inductive TK where
  | op
  | cl (e : Nat)
  | nil
  deriving DecidableEq
inductive VV where
  | any
  | sc (v : Value)
  | agg (cs : List VV)
  | tup (vs : List VV)
  | tree (es : List VV) (k : TK)
  | tptr (x : VV) (off : Nat)
  | ref (b g o n c : Nat)
  | ptr (b g j off : Nat)
  | clo (f : Nat) (caps : List VV)
  deriving Inhabited
inductive VBlk where
  | dead
  | row (g : Nat) (es : List VV) (e : Nat) (w : Bool)
  deriving Inhabited
abbrev VHeap := List VBlk
abbrev VEnv := Nat → VV
def vundef : VV := .tup []
def isSc : Value → Bool
  | .bool _ | .int _ _ | .string _ | .pointer none | .nilFunc | .nilIface => true
  | _ => false
def inj1 : Value → VV
  | .slice none 0 0 => .tree [] .nil
  | v => if isSc v then .sc v else .any
def inj : Value → VV
  | .agg cs => .agg (cs.toList.map inj1)
  | .tuple vs => if vs.isEmpty then .tup [] else .any
  | v => inj1 v
def vev (ρ : VEnv) : Operand → VV
  | .tmp t => ρ t
  | .const v => inj v
  | .global _ => .any
  | .func f => .clo f []
def vput (ρ : VEnv) : Option Nat → VV → VEnv
  | none, _ => ρ
  | some d, v => fun k => if k = d then v else ρ k
def vcells : VV → List VV
  | .agg cs => cs
  | v => [v]
def elemOf : List VV → VV
  | [x] => x
  | cs => .agg cs
def vscal : VV → Bool
  | .any | .agg _ | .tup _ => false
  | _ => true
def uni : List VV → Bool
  | [] => true
  | x :: xs => xs.all fun y => (vcells y).length == (vcells x).length
mutual
def pureV : VV → Bool
  | .any => false
  | .sc v => isSc v
  | .agg cs => pureL cs
  | .tup vs => pureL vs
  | .tree es k => decide (k = .op) && pureL es && uni es
  | .tptr x _ => pureV x
  | .ref .. => false
  | .ptr .. => false
  | .clo _ caps => pureL caps
def pureL : List VV → Bool
  | [] => true
  | x :: xs => pureV x && pureL xs
end
def elemOk : VV → Bool
  | .agg [_] => false
  | _ => true
mutual
def resV : VV → Bool
  | .any => false
  | .sc v => isSc v
  | .agg cs => resL cs
  | .tup vs => resL vs
  | .tree es k => decide (k = .op) && resL es && uni es && es.all elemOk
  | .tptr _ _ => false
  | .ref .. => false
  | .ptr .. => false
  | .clo _ _ => false
def resL : List VV → Bool
  | [] => true
  | x :: xs => resV x && resL xs
end
mutual
def flatV : VV → Bool
  | .sc v => isSc v
  | .agg cs => flatL cs
  | .tup vs => flatL vs
  | _ => false
def flatL : List VV → Bool
  | [] => true
  | x :: xs => flatV x && flatL xs
end
mutual
def below (k : Nat) : VV → Bool
  | .any => true
  | .sc _ => true
  | .agg cs => belowL k cs
  | .tup vs => belowL k vs
  | .tree es _ => belowL k es
  | .tptr x _ => below k x
  | .ref b _ _ _ _ => decide (b < k)
  | .ptr b _ _ _ => decide (b < k)
  | .clo _ caps => belowL k caps
def belowL (k : Nat) : List VV → Bool
  | [] => true
  | x :: xs => below k x && belowL k xs
end
def scrub (k : Nat) (v : VV) : VV := if below k v then v else .any
def vrow (H : VHeap) (b g : Nat) : Option (List VV × Nat × Bool) :=
  match H[b]? with
  | some (.row g' es e w) => if g' = g then some (es, e, w) else none
  | _ => none
def veqCells : List CK → List VV → List VV → Option Bool
  | [], [], [] => some true
  | k :: ks, .sc x :: xs, .sc y :: ys => match eqCell k x y with
    | some true => veqCells ks xs ys
    | some false => some false
    | none => none
  | _, _, _ => none
def vsplice (cs : List VV) (o : Nat) (new : List VV) : List VV := cs.take o ++ new ++ cs.drop (o + new.length)
def isAny : VV → Bool
  | .any => true
  | _ => false
def vfill (places : List (Nat × Nat)) (cells : List VV) : List (Nat × VV) → Option (List VV)
  | [] => some cells
  | (i, v) :: rest =>
    match places[i]? with
    | none => none
    | some (off, size) =>
      if (vcells v).length = size ∧ off + size ≤ cells.length ∧ isAny v = false then
        vfill places (cells.take off ++ vcells v ++ cells.drop (off + size)) rest
      else none
def litFill (e : Nat) (es : List VV) : List (Nat × VV) → Option (List VV)
  | [] => some es
  | (i, v) :: rest => if i < es.length ∧ (vcells v).length = e ∧ (vcells v).all vscal then litFill e (es.set i v) rest else none
def vnum : Option VV → Option (Option Value)
  | none => some none
  | some (.sc v) => some (some v)
  | some _ => none
def rdCells (agg : Bool) (size : Nat) (x : VV) (o : Nat) : Option VV :=
  if agg then (if o + size ≤ (vcells x).length then some (.agg (((vcells x).drop o).take size)) else none) else (vcells x)[o]?
structure Fl where
  bf : Bool
  lr : Bool
def vload (agg : Bool) (size : Nat) (p : VV) (H : VHeap) : Option VV :=
  match p with
  | .tptr x o => rdCells agg size x o
  | .ptr b g j o => match vrow H b g with
    | some (es, _, _) => match es[j]? with
      | some x => rdCells agg size x o
      | none => none
    | none => none
  | _ => none
def viaddr (size : Nat) (x i : VV) (H : VHeap) : Option VV :=
  match x, i with
  | .tree es _, .sc (.int _ i) => if 0 ≤ i then match es[i.toNat]? with
    | some x => if (vcells x).length = size then some (.tptr x 0) else none
    | none => none
    else none
  | .ref b g o n _, .sc (.int _ i) => match vrow H b g with
    | some (_, e, _) => if e = size ∧ 0 ≤ i ∧ i < n then some (.ptr b g (o + i.toNat) 0) else none
    | none => none
  | _, _ => none
def vsub (size : Nat) (x : VV) (l h m : Option VV) (H : VHeap) : Option VV :=
  match vnum l, vnum h, vnum m with
  | some lv, some hv, some mv =>
    match x with
    | .tree (y :: ys) _ =>
      if (vcells y).length = size then
        match pbound mv (some (ys.length + 1)) (ys.length + 1) with
        | none => none
        | some m => match pbound hv (if mv.isSome then none else some (ys.length + 1)) m with
          | none => none
          | some h => match pbound lv (some 0) h with
            | none => none
            | some l => if mv.isSome ∧ m = l then some (.tree [] (.cl size)) else some (.tree (((y :: ys).drop l).take (h - l)) .op)
      else none
    | .ref b g o n c =>
      match vrow H b g with
      | some (_, e, _) =>
        if e = size then
          match pbound mv (some c) c with
          | none => none
          | some m => match pbound hv (if mv.isSome then none else some n) m with
            | none => none
            | some h => match pbound lv (some 0) h with
              | none => none
              | some l => if mv.isSome ∧ m = l then some (.tree [] (.cl size)) else some (.ref b g (o + l) (h - l) (m - l))
        else none
      | none => none
    | _ => none
  | _, _, _ => none
def vbytes : List VV → Option (List UInt8)
  | [] => some []
  | .sc (.int .u8 n) :: r => (vbytes r).map (UInt8.ofNat n.toNat :: ·)
  | _ => none
def vsource (size : Nat) (y : VV) (H : VHeap) : Option (List VV) :=
  match y with
  | .tree es _ => if es.all fun x => (vcells x).length == size && (vcells x).all vscal then some es else none
  | .ref b g o n _ => match vrow H b g with
    | some (es, e, _) => if e = size ∧ o + n ≤ es.length ∧ (((es.drop o).take n).all fun x => (vcells x).all vscal) then some ((es.drop o).take n) else none
    | none => none
  | .sc (.string s) => if size = 1 then some (s.data.toList.map fun b => .sc (.int .u8 b.toNat)) else none
  | _ => none
def vappend (lo size bytes : Nat) (x : VV) (new : List VV) (H : VHeap) : Option (VV × VHeap) :=
  if 1 ≤ bytes ∧ 1 ≤ size then
    match x with
    | .tree [] .nil => if new.length = 0 then some (x, H) else if new.length * bytes ≤ 140737488355328 then some (.ref H.length 0 0 new.length new.length, H ++ [.row 0 new size true]) else none
    | .tree es (.cl e) => if e = size then (if new.length = 0 then some (x, H) else if (es.length + new.length) * bytes ≤ 140737488355328 then some (.ref H.length 0 0 (es.length + new.length) (es.length + new.length), H ++ [.row 0 (es ++ new) size true]) else none) else none
    | .ref b g o n c => match vrow H b g with
      | some (es, e, true) =>
        if e = size ∧ lo ≤ b ∧ o + n ≤ es.length then
          if n + new.length ≤ c then
            if new.length = 0 then some (x, H)
            else if o + n + new.length ≤ es.length then some (.ref b g o (n + new.length) c, H.set b (.row g (vsplice es (o + n) new) e true))
            else none
          else if (n + new.length) * bytes ≤ 140737488355328 then some (.ref b (g + 1) 0 (n + new.length) (n + new.length), H.set b (.row (g + 1) ((es.drop o).take n ++ new) e true))
          else none
        else none
      | _ => none
    | _ => none
  else none
def vstore (lo size : Nat) (p v : VV) (H : VHeap) : Option VHeap :=
  match p with
  | .ptr b g j o => match vrow H b g with
    | some (es, e, true) => match es[j]? with
      | some x =>
        if (vcells v).length = size ∧ lo ≤ b ∧ (vcells v).all vscal then
          if o = 0 ∧ size = e then some (H.set b (.row g (es.set j v) e true))
          else if 2 ≤ e ∧ o + size ≤ e then some (H.set b (.row g (es.set j (.agg (vsplice (vcells x) o (vcells v)))) e true))
          else none
        else none
      | none => none
    | _ => none
  | _ => none
def vmake (zero : List Value) (bytes : Nat) (l c : VV) (H : VHeap) : Option (VV × VHeap) :=
  match l, c with
  | .sc (.int .i64 l), .sc (.int .i64 c) => if 0 ≤ l ∧ l ≤ c ∧ c * bytes ≤ 281474976710656 ∧ c ≤ 9223372036854775807 then
      some (.ref H.length 0 0 l.toNat c.toNat, H ++ [.row 0 (List.replicate c.toNat (elemOf (zero.map inj1))) zero.length true]) else none
  | _, _ => none
def vlit (lr : Bool) (zero : List Value) (n : Nat) (parts : List (Nat × VV)) (H : VHeap) : Option (VV × VHeap) :=
  match litFill zero.length (List.replicate n (elemOf (zero.map inj1))) parts with
  | some es => if (zero.map inj1).all vscal then (if n = 0 ∨ lr = true then some (.ref H.length 0 0 n n, H ++ [.row 0 es zero.length true]) else some (.tree es (.cl zero.length), H)) else none
  | none => none
def vcopy (lo size : Nat) (x y : VV) (H : VHeap) : Option (VV × VHeap) :=
  match x, vsource size y H with
  | .tree [] .nil, some _ => some (.sc (.int .i64 0), H)
  | .ref b g o d _, some new => match vrow H b g with
    | some (es, e, true) => if e = size ∧ lo ≤ b ∧ o + (new.take d).length ≤ es.length then some (.sc (.int .i64 (new.take d).length), H.set b (.row g (vsplice es o (new.take d)) e true)) else none
    | _ => none
  | _, _ => none
def vclear (lo : Nat) (zero : List Value) (x : VV) (H : VHeap) : Option VHeap :=
  match x with
  | .ref b g o n _ => match vrow H b g with
    | some (es, e, true) => if n = 0 then some H else if e = zero.length ∧ lo ≤ b ∧ o + n ≤ es.length ∧ (zero.map inj1).all vscal then some (H.set b (.row g (vsplice es o (List.replicate n (elemOf (zero.map inj1)))) e true)) else none
    | _ => none
  | _ => none
def visnil (neg : Bool) (x : VV) (H : VHeap) : Option VV :=
  match x with
  | .tree [] .nil => some (.sc (.bool (true != neg)))
  | .tree [] (.cl _) => some (.sc (.bool (false != neg)))
  | .tree (_ :: _) _ => some (.sc (.bool (false != neg)))
  | .ref b g _ _ _ => (vrow H b g).map fun _ => .sc (.bool (false != neg))
  | _ => none
def vlen (x : VV) (H : VHeap) : Option VV :=
  match x with
  | .tree es _ => some (.sc (.int .i64 es.length))
  | .ref b g _ n _ => (vrow H b g).map fun _ => .sc (.int .i64 n)
  | _ => none
def vfaddr (off : Nat) (x : VV) (H : VHeap) : Option VV :=
  match x with
  | .tptr x o => some (.tptr x (o + off))
  | .ptr b g j o => (vrow H b g).map fun _ => .ptr b g j (o + off)
  | _ => none
def vchk (x : VV) (H : VHeap) : Option VV :=
  match x with
  | .tptr x o => some (.tptr x o)
  | .ptr b g j o => (vrow H b g).map fun _ => .ptr b g j o
  | _ => none
def vssub (x : VV) (l h : Option VV) : Option VV :=
  match x, vnum l, vnum h with
  | .sc (.string s), some lv, some hv => match psliceB lv hv s.size with
    | some (l, h) => some (.sc (.string (s.extract l h)))
    | none => none
  | _, _, _ => none
def vfld (agg : Bool) (off size : Nat) (x : VV) : Option VV :=
  match x with
  | .agg cs => if agg then (if off + size ≤ cs.length then some (.agg ((cs.drop off).take size)) else none) else cs[off]?
  | _ => none
def vsc1 (f : Value → Option Value) (x : VV) : Option VV :=
  match x with
  | .sc a => (f a).map .sc
  | _ => none
def vsc2 (f : Value → Value → Option Value) (x y : VV) : Option VV :=
  match x, y with
  | .sc a, .sc b => (f a b).map .sc
  | _, _ => none
def vpick (c a b : VV) : Option VV :=
  match c with
  | .sc (.bool t) => some (if t then a else b)
  | _ => none
def vext (i : Nat) (x : VV) : Option VV :=
  match x with
  | .tup vs => vs[i]?
  | _ => none
def veqagg (neg : Bool) (ks : List CK) (x y : VV) : Option VV :=
  match x, y with
  | .agg a, .agg b => (veqCells ks a b).map fun t => .sc (.bool (t != neg))
  | _, _ => none
def cvsV : Value → Option Value
  | .string s => some (.string s)
  | _ => none
def slenV : Value → Option Value
  | .string s => some (.int .i64 s.size)
  | _ => none
def sidxV : Value → Value → Option Value
  | .string s, .int _ i => if 0 ≤ i ∧ i < s.size then some (.int .u8 ((s.data.toList.getD i.toNat 0).toNat : Int)) else none
  | _, _ => none
def vop (fl : Fl) (lo : Nat) (o : POp) (ρ : VEnv) (H : VHeap) : Option (VV × VHeap) :=
  match o with
  | .mv x => some (vev ρ x, H)
  | .pick c a b => (vpick (vev ρ c) (vev ρ a) (vev ρ b)).map (·, H)
  | .bin op x y => (vsc2 (pbin op) (vev ρ x) (vev ρ y)).map (·, H)
  | .eqb neg x y => (vsc2 (eqbV neg) (vev ρ x) (vev ρ y)).map (·, H)
  | .isnil neg x => (visnil neg (vev ρ x) H).map (·, H)
  | .eqagg neg ks x y => (veqagg neg ks (vev ρ x) (vev ρ y)).map (·, H)
  | .un op x => (vsc1 (pun op) (vev ρ x)).map (·, H)
  | .cvt k x => (vsc1 (cvtV k) (vev ρ x)).map (·, H)
  | .cvs x => (vsc1 cvsV (vev ρ x)).map (·, H)
  | .ext x i => (vext i (vev ρ x)).map (·, H)
  | .fld agg off size x => (vfld agg off size (vev ρ x)).map (·, H)
  | .build zero places parts => (vfill places (zero.map inj1) (parts.map fun (i, x) => (i, vev ρ x))).map fun cs => (.agg cs, H)
  | .chk x => (vchk (vev ρ x) H).map (·, H)
  | .faddr off x => (vfaddr off (vev ρ x) H).map (·, H)
  | .iaddr size x i => (viaddr size (vev ρ x) (vev ρ i) H).map (·, H)
  | .sidx x i => (vsc2 sidxV (vev ρ x) (vev ρ i)).map (·, H)
  | .ssub x l h => (vssub (vev ρ x) (l.map (vev ρ)) (h.map (vev ρ))).map (·, H)
  | .mkfn f caps => some (.clo f (caps.map (vev ρ)), H)
  | .len x => (vlen (vev ρ x) H).map (·, H)
  | .slen x => (vsc1 slenV (vev ρ x)).map (·, H)
  | .min x y => (vsc2 minV (vev ρ x) (vev ρ y)).map (·, H)
  | .max x y => (vsc2 maxV (vev ρ x) (vev ρ y)).map (·, H)
  | .load agg size p => (vload agg size (vev ρ p) H).map (·, H)
  | .sub size x l h m => (vsub size (vev ρ x) (l.map (vev ρ)) (h.map (vev ρ)) (m.map (vev ρ)) H).map (·, H)
  | .b2s x => match vev ρ x with
    | .sc _ => none
    | y => match vsource 1 y H with
      | some es => (vbytes es).map fun bs => (.sc (.string ⟨bs.toArray⟩), H)
      | none => none
  | .new zero => if (zero.map inj1).all vscal then some (.ptr H.length 0 0 0, H ++ [.row 0 [elemOf (zero.map inj1)] zero.length true]) else none
  | .box x => if (vcells (vev ρ x)).all vscal then (if fl.bf then some (.tptr (vev ρ x) 0, H) else some (.ptr H.length 0 0 0, H ++ [.row 0 [vev ρ x] (vcells (vev ρ x)).length true])) else none
  | .make zero bytes l c => if (zero.map inj1).all vscal then vmake zero bytes (vev ρ l) (vev ρ c) H else none
  | .lit zero n parts => vlit fl.lr zero n (parts.map fun (i, x) => (i, vev ρ x)) H
  | .store size p v => (vstore lo size (vev ρ p) (vev ρ v) H).map fun H' => (vundef, H')
  | .app size bytes x y => match vsource size (vev ρ y) H with
    | some new => vappend lo size bytes (vev ρ x) new H
    | none => none
  | .appz zero bytes x n => match vev ρ n with
    | .sc (.int .i64 n) => if 0 ≤ n ∧ n * bytes ≤ 140737488355328 ∧ (zero.map inj1).all vscal then vappend lo zero.length bytes (vev ρ x) (List.replicate n.toNat (elemOf (zero.map inj1))) H else none
    | _ => none
  | .copy size x y => vcopy lo size (vev ρ x) (vev ρ y) H
  | .clear zero x => (vclear lo zero (vev ρ x) H).map fun H' => (vundef, H')
  | _ => none
inductive VBx where
  | no
  | row (i : Nat) (w : Bool)
  | old (i : Nat)
  | tree
  | bad
def vblk (H : VHeap) : VV → VBx
  | .tree [] .nil => .no
  | .tree _ _ => .tree
  | .tptr _ _ => .tree
  | .ref b g _ _ _ => match vrow H b g with
    | some (_, _, w) => .row b w
    | none => .old b
  | .ptr b g _ _ => match vrow H b g with
    | some (_, _, w) => .row b w
    | none => .old b
  | .any => .bad
  | _ => .no
def vkoff (H : VHeap) (x y : VV) : Bool :=
  match vblk H x, vblk H y with
  | .bad, _ => false
  | _, .bad => false
  | .no, _ => true
  | _, .no => true
  | .row i _, .row j _ => i != j
  | .row i _, .old j => i != j
  | .old i, .row j _ => i != j
  | .old _, .old _ => false
  | .old _, .tree => false
  | .tree, .old _ => false
  | .row _ w, .tree => w
  | .tree, .row _ w => w
  | .tree, .tree => false
def vkeeps (ρ : VEnv) (H : VHeap) (c : Operand × Operand) : Bool := vkoff H (vev ρ c.1) (vev ρ c.2)
def vwanted (g : Option (Nat × Bool)) (ρ : VEnv) : Option Bool :=
  match g with
  | none => some true
  | some (t, want) => match ρ t with
    | .sc (.bool b) => some (b == want)
    | .tup _ => some false
    | _ => none
def fz : Nat → VHeap → VV → Option VV
  | 0, _, _ => none
  | d + 1, H, v =>
    if pureV v then some v else
    match v with
    | .agg cs => (cs.mapM (fz d H)).map .agg
    | .tup vs => (vs.mapM (fz d H)).map .tup
    | .tree es _ => (es.mapM (fz d H)).map (.tree · .op)
    | .tptr x o => (fz d H x).map (.tptr · o)
    | .ref b g o n c => match vrow H b g with
      | some (es, _, _) => if o + n ≤ es.length ∧ n ≤ c then (((es.drop o).take n).mapM (fz d H)).map (.tree · .op) else none
      | none => none
    | .ptr b g j o => match vrow H b g with
      | some (es, _, _) => match es[j]? with
        | some x => (fz d H x).map (.tptr · o)
        | none => none
      | none => none
    | .clo f caps => (caps.mapM (fz d H)).map (.clo f ·)
    | _ => none
def fzIds : Nat → VHeap → VV → List Nat
  | 0, _, _ => []
  | d + 1, H, v =>
    if pureV v then [] else
    match v with
    | .agg cs => cs.flatMap (fzIds d H)
    | .tup vs => vs.flatMap (fzIds d H)
    | .tree es _ => es.flatMap (fzIds d H)
    | .tptr x _ => fzIds d H x
    | .ref b g o n _ => match vrow H b g with
      | some (es, _, _) => b :: ((es.drop o).take n).flatMap (fzIds d H)
      | none => []
    | .ptr b g j _ => match vrow H b g with
      | some (es, _, _) => match es[j]? with
        | some x => b :: fzIds d H x
        | none => []
      | none => []
    | .clo _ caps => caps.flatMap (fzIds d H)
    | _ => []
def freeze1 (H : VHeap) (b : Nat) : VHeap :=
  match H[b]? with
  | some (.row g es e _) => H.set b (.row g es e false)
  | _ => H
def freezeAll (H : VHeap) (ids : List Nat) : VHeap := ids.foldl freeze1 H
def depth : Nat := 8
end Go.PM
/- How values and rows of the logic stand to the pure machine's values and heap. -/
namespace Go.PM
structure View where
  m : Nat → Nat
  F : Nat → Prop
  H : VHeap
  P : Heap
  base : Nat
def kindOk (k : TK) (n c e : Nat) (p : Bool) : Prop :=
  match k with
  | .op => True
  | .cl e' => e' = e ∧ c = n ∧ p = false
  | .nil => False
mutual
inductive VR (V : View) : VV → Value → Prop
  | any (v : Value) : VR V .any v
  | sc (v : Value) (h : isSc v = true) : VR V (.sc v) v
  | agg (cs : List VV) (ps : List Value) (h : VL V cs ps) : VR V (.agg cs) (.agg ps.toArray)
  | tup (cs : List VV) (ps : List Value) (h : VL V cs ps) : VR V (.tup cs) (.tuple ps.toArray)
  | tnil (k : TK) (hk : k = .op ∨ k = .nil) : VR V (.tree [] k) (.slice none 0 0)
  | tree (es : List VV) (k : TK) (b o c : Nat) (r : List Value) (e : Nat) (p : Bool) (hF : V.F b) (hb : V.P[b]? = some (.row r e p)) (ho : o + es.length * e ≤ r.length)
      (hc : es.length ≤ c) (he : ∀ x ∈ es, (vcells x).length = e) (hk : kindOk k es.length c e p) (hl : VL V (es.flatMap vcells) ((r.drop o).take (es.length * e))) :
      VR V (.tree es k) (.slice (some ⟨b, o, none⟩) es.length c)
  | tptr (x : VV) (off b o : Nat) (r : List Value) (e : Nat) (p : Bool) (hF : V.F b) (hb : V.P[b]? = some (.row r e p)) (ho : o + (vcells x).length ≤ r.length)
      (hl : VL V (vcells x) ((r.drop o).take (vcells x).length)) : VR V (.tptr x off) (.pointer (some ⟨b, o + off, none⟩))
  | ref (b g o n c : Nat) (a : Option Addr) (n' c' : Nat) (hlt : b < V.H.length) (hg : ∀ g' es e w, V.H[b]? = some (.row g' es e w) → g ≤ g')
      (h : ∀ es e w, V.H[b]? = some (.row g es e w) → a = some ⟨V.m b, o * e, none⟩ ∧ n' = n ∧ c' = c)
      (hq : ∀ a0, a = some a0 → V.base ≤ a0.block ∧ a0.block < V.P.length ∧ ∀ b' g' es e w, V.H[b']? = some (.row g' es e w) → b' ≠ b → V.m b' ≠ a0.block) : VR V (.ref b g o n c) (.slice a n' c')
  | ptr (b g j off : Nat) (a : Option Addr) (hlt : b < V.H.length) (hg : ∀ g' es e w, V.H[b]? = some (.row g' es e w) → g ≤ g')
      (h : ∀ es e w, V.H[b]? = some (.row g es e w) → a = some ⟨V.m b, j * e + off, none⟩)
      (hq : ∀ a0, a = some a0 → V.base ≤ a0.block ∧ a0.block < V.P.length ∧ ∀ b' g' es e w, V.H[b']? = some (.row g' es e w) → b' ≠ b → V.m b' ≠ a0.block) : VR V (.ptr b g j off) (.pointer a)
  | clo (f : Nat) (caps : List VV) (ps : List Value) (h : VL V caps ps) : VR V (.clo f caps) (.func (.func f) #[] ps.toArray)
inductive VL (V : View) : List VV → List Value → Prop
  | nil : VL V [] []
  | cons (x : VV) (v : Value) (xs : List VV) (vs : List Value) (h : VR V x v) (hs : VL V xs vs) : VL V (x :: xs) (v :: vs)
end
structure Up (V V' : View) : Prop where
  F : ∀ b, V.F b → V'.F b
  P : ∀ b, V.F b → V'.P[b]? = V.P[b]?
  len : V.H.length ≤ V'.H.length
  row : ∀ b g' es' e w', b < V.H.length → V'.H[b]? = some (.row g' es' e w') → ∃ g es w, V.H[b]? = some (.row g es e w) ∧ g ≤ g' ∧ (g' = g → V'.m b = V.m b)
  bas : V'.base = V.base
  plen : V.P.length ≤ V'.P.length
  old : ∀ b g es e w, V'.H[b]? = some (.row g es e w) → V'.m b < V.P.length → ∃ g0 es0 w0, V.H[b]? = some (.row g0 es0 e w0) ∧ V'.m b = V.m b ∧ (w = true → w0 = true)
section
variable {V V' V'' : View}
theorem Up.refl (V : View) : Up V V := ⟨fun _ h => h, fun _ _ => rfl, Nat.le_refl _, fun b g es e w _ h => ⟨g, es, w, h, Nat.le_refl _, fun _ => rfl⟩, rfl, Nat.le_refl _, fun b g es e w h _ => ⟨g, es, w, h, rfl, id⟩⟩
theorem Up.trans (h : Up V V') (h' : Up V' V'') : Up V V'' :=
  ⟨fun b hb => h'.F b (h.F b hb), fun b hb => (h'.P b (h.F b hb)).trans (h.P b hb), Nat.le_trans h.len h'.len, fun b g es e w hb hr => by
    obtain ⟨g1, es1, w1, h1, h2, h3⟩ := h'.row b g es e w (Nat.lt_of_lt_of_le hb h.len) hr
    obtain ⟨g2, es2, w2, h4, h5, h6⟩ := h.row b g1 es1 e w1 hb h1
    exact ⟨g2, es2, w2, h4, Nat.le_trans h5 h2, fun hg => (h3 (by omega)).trans (h6 (by omega))⟩, h'.bas.trans h.bas, Nat.le_trans h.plen h'.plen, fun b g es e w hb hm => by
      obtain ⟨g1, es1, w1, h1, h2, h3⟩ := h'.old b g es e w hb (Nat.lt_of_lt_of_le hm h.plen)
      obtain ⟨g2, es2, w2, h4, h5, h6⟩ := h.old b g1 es1 e w1 h1 (by rw [← h2]; exact hm)
      exact ⟨g2, es2, w2, h4, h2.trans h5, fun hw => h6 (h3 hw)⟩⟩
theorem Up.hq (u : Up V V') {b q : Nat} (h : V.base ≤ q ∧ q < V.P.length ∧ ∀ b' g' es e w, V.H[b']? = some (.row g' es e w) → b' ≠ b → V.m b' ≠ q) : V'.base ≤ q ∧ q < V'.P.length ∧ ∀ b' g' es e w, V'.H[b']? = some (.row g' es e w) → b' ≠ b → V'.m b' ≠ q := by
  refine ⟨by rw [u.bas]; exact h.1, Nat.lt_of_lt_of_le h.2.1 u.plen, fun b' g' es e w hb hne hm => ?_⟩
  obtain ⟨g0, es0, w0, h1, h2, _⟩ := u.old b' g' es e w hb (by rw [hm]; exact h.2.1)
  exact h.2.2 b' _ _ _ _ h1 hne (h2.symm.trans hm)
theorem VR.mono (u : Up V V') {x : VV} {v : Value} (h : VR V x v) : VR V' x v := by
  induction h using VR.rec (motive_2 := fun xs vs _ => VL V' xs vs) with
  | any => exact .any _
  | sc _ h => exact .sc _ h
  | agg cs ps _ ih => exact .agg _ _ ih
  | tup cs ps _ ih => exact .tup _ _ ih
  | tnil k hk => exact .tnil k hk
  | tree es k b o c r e p hF hb ho hc he hk _ ih => exact .tree es k b o c r e p (u.F _ hF) (by rw [u.P _ hF]; exact hb) ho hc he hk ih
  | tptr x off b o r e p hF hb ho _ ih => exact .tptr x off b o r e p (u.F _ hF) (by rw [u.P _ hF]; exact hb) ho ih
  | ref b g o n c a n' c' hlt hg h hq =>
    refine .ref b g o n c a n' c' (Nat.lt_of_lt_of_le hlt u.len) (fun g' es e w hr => ?_) (fun es e w hr => ?_) fun a0 ha => u.hq (hq a0 ha)
    · obtain ⟨g1, es1, w1, h1, h2, _⟩ := u.row b g' es e w hlt hr
      exact Nat.le_trans (hg _ _ _ _ h1) h2
    · obtain ⟨g1, es1, w1, h1, h2, h3⟩ := u.row b g es e w hlt hr
      have h4 := hg _ _ _ _ h1
      have h5 : g = g1 := by omega
      subst h5
      rw [h3 rfl]
      exact h _ _ _ h1
  | ptr b g j off a hlt hg h hq =>
    refine .ptr b g j off a (Nat.lt_of_lt_of_le hlt u.len) (fun g' es e w hr => ?_) (fun es e w hr => ?_) fun a0 ha => u.hq (hq a0 ha)
    · obtain ⟨g1, es1, w1, h1, h2, _⟩ := u.row b g' es e w hlt hr
      exact Nat.le_trans (hg _ _ _ _ h1) h2
    · obtain ⟨g1, es1, w1, h1, h2, h3⟩ := u.row b g es e w hlt hr
      have h4 := hg _ _ _ _ h1
      have h5 : g = g1 := by omega
      subst h5
      rw [h3 rfl]
      exact h _ _ _ h1
  | clo f caps ps _ ih => exact .clo _ _ _ ih
  | nil => exact .nil
  | cons x v xs vs _ _ ih ihs => exact .cons _ _ _ _ ih ihs
theorem VL.mono (u : Up V V') {xs : List VV} {vs : List Value} (h : VL V xs vs) : VL V' xs vs := by
  induction xs generalizing vs with
  | nil => cases h; exact .nil
  | cons x xs ih => cases h with
    | cons _ v _ vs h hs => exact .cons _ _ _ _ (h.mono u) (ih hs)
end
section
variable {V : View} {xs ys : List VV} {vs ws : List Value}
theorem VL.length : ∀ {xs : List VV} {vs : List Value}, VL V xs vs → vs.length = xs.length
  | _, _, .nil => rfl
  | _, _, .cons _ _ _ _ _ hs => by simp [hs.length]
theorem VL.append : ∀ {xs : List VV} {vs : List Value}, VL V xs vs → VL V ys ws → VL V (xs ++ ys) (vs ++ ws)
  | _, _, .nil, h' => h'
  | _, _, .cons _ _ _ _ h hs, h' => .cons _ _ _ _ h (hs.append h')
theorem VL.take (n : Nat) : ∀ {xs : List VV} {vs : List Value} , VL V xs vs → VL V (xs.take n) (vs.take n) := by
  induction n with
  | zero => intro xs vs _; simp; exact .nil
  | succ n ih => intro xs vs h; cases h with
    | nil => simp; exact .nil
    | cons x v xs vs h hs => exact .cons _ _ _ _ h (ih hs)
theorem VL.drop (n : Nat) : ∀ {xs : List VV} {vs : List Value} , VL V xs vs → VL V (xs.drop n) (vs.drop n) := by
  induction n with
  | zero => intro xs vs h; simpa using h
  | succ n ih => intro xs vs h; cases h with
    | nil => simp; exact .nil
    | cons x v xs vs h hs => exact ih hs
theorem VL.get (h : VL V xs vs) {i : Nat} {x : VV} (hx : xs[i]? = some x) : ∃ v, vs[i]? = some v ∧ VR V x v := by
  induction i generalizing xs vs with
  | zero => cases h with
    | nil => cases hx
    | cons y v xs vs h hs => simp at hx; subst hx; exact ⟨v, rfl, h⟩
  | succ i ih => cases h with
    | nil => cases hx
    | cons y v xs vs h hs => exact ih hs (by simpa using hx)
theorem VL.map {α : Type} {f : α → VV} {g : α → Value} : ∀ {l : List α}, (∀ x ∈ l, VR V (f x) (g x)) → VL V (l.map f) (l.map g)
  | [], _ => .nil
  | x :: l, h => .cons _ _ _ _ (h x (by simp)) (VL.map fun y hy => h y (by simp [hy]))
theorem VL.replicate {x : VV} {v : Value} (h : VR V x v) : ∀ n, VL V (List.replicate n x) (List.replicate n v)
  | 0 => .nil
  | n + 1 => .cons _ _ _ _ h (VL.replicate h n)
theorem VL.splice {cs new : List VV} {ps pn : List Value} (h : VL V cs ps) (hn : VL V new pn) (o : Nat) : VL V (vsplice cs o new) (splice ps o pn) := by
  unfold vsplice PM.splice
  rw [← hn.length]
  exact ((h.take o).append hn).append (h.drop _)
theorem VR.inj1 (v : Value) : VR V (inj1 v) v := by
  unfold PM.inj1
  split
  · exact .tnil _ (.inr rfl)
  · split
    · rename_i h; exact .sc _ h
    · exact .any _
theorem VR.inj (v : Value) : VR V (inj v) v := by
  unfold PM.inj
  split
  · rename_i cs
    have : (Value.agg cs) = .agg cs.toList.toArray := by simp
    rw [this]
    refine .agg _ _ ?_
    have := VL.map (V := V) (f := PM.inj1) (g := id) (l := cs.toList) fun x _ => VR.inj1 x
    simpa using this
  · rename_i vs
    split
    · rename_i h
      have : vs = [].toArray := by simpa using h
      rw [this]
      exact .tup _ _ .nil
    · exact .any _
  · exact VR.inj1 _
theorem VL.zero (z : List Value) : VL V (z.map PM.inj1) z := by
  have := VL.map (V := V) (f := PM.inj1) (g := id) (l := z) fun x _ => VR.inj1 x
  simpa using this
theorem VR.cells {x : VV} {v : Value} (h : VR V x v) (hx : x ≠ .any) : VL V (vcells x) (pcells v) := by
  cases h with
  | any => exact absurd rfl hx
  | sc v h =>
    have : pcells v = [v] := by cases v <;> first | rfl | cases h
    rw [this]
    exact .cons _ _ _ _ (.sc v h) .nil
  | agg cs ps h => simpa [vcells, pcells] using h
  | tup cs ps h => exact .cons _ _ _ _ (.tup _ _ h) .nil
  | tnil k hk => exact .cons _ _ _ _ (.tnil k hk) .nil
  | tree es k b o c r e p hF hb ho hc he hk hl => exact .cons _ _ _ _ (.tree es k b o c r e p hF hb ho hc he hk hl) .nil
  | tptr x off b o r e p hF hb ho hl => exact .cons _ _ _ _ (.tptr x off b o r e p hF hb ho hl) .nil
  | ref b g o n c a n' c' hlt hg h hq => exact .cons _ _ _ _ (.ref b g o n c a n' c' hlt hg h hq) .nil
  | ptr b g j off a hlt hg h hq => exact .cons _ _ _ _ (.ptr b g j off a hlt hg h hq) .nil
  | clo f caps ps h => exact .cons _ _ _ _ (.clo _ _ _ h) .nil
theorem VR.scal {x : VV} {v : Value} (h : VR V x v) (hx : vscal x = true) : scal v = true := by
  cases h with
  | sc v h => cases v <;> first | rfl | cases h
  | any => cases hx
  | agg => cases hx
  | tup => cases hx
  | _ => rfl
theorem VL.scal : ∀ {xs : List VV} {vs : List Value}, VL V xs vs → xs.all vscal = true → vs.all PM.scal = true
  | _, _, .nil, _ => rfl
  | _, _, .cons _ _ _ _ h hs, hx => by
    rw [List.all_cons, Bool.and_eq_true] at hx ⊢
    exact ⟨h.scal hx.1, hs.scal hx.2⟩
theorem notAny {x : VV} (h : (vcells x).all vscal = true) : x ≠ .any := by
  rintro rfl
  cases h
theorem flatv_len {es : List VV} {e : Nat} (he : ∀ x ∈ es, (vcells x).length = e) : (es.flatMap vcells).length = es.length * e := by
  induction es with
  | nil => simp
  | cons x xs ih =>
    rw [List.flatMap_cons, List.length_append, ih fun y hy => he y (List.mem_cons_of_mem _ hy), he x List.mem_cons_self, List.length_cons, Nat.succ_mul]
    omega
theorem flatv_drop {es : List VV} {e : Nat} (he : ∀ x ∈ es, (vcells x).length = e) (i : Nat) : (es.flatMap vcells).drop (i * e) = (es.drop i).flatMap vcells := by
  induction i generalizing es with
  | zero => simp
  | succ i ih =>
    cases es with
    | nil => simp
    | cons x xs =>
      have hx := he x List.mem_cons_self
      rw [List.flatMap_cons, List.drop_succ_cons, ← ih fun y hy => he y (List.mem_cons_of_mem _ hy), show (i + 1) * e = (vcells x).length + i * e by rw [hx, Nat.succ_mul]; omega, List.drop_append]
      simp
theorem flatv_take {es : List VV} {e : Nat} (he : ∀ x ∈ es, (vcells x).length = e) (i : Nat) : (es.flatMap vcells).take (i * e) = (es.take i).flatMap vcells := by
  induction i generalizing es with
  | zero => simp
  | succ i ih =>
    cases es with
    | nil => simp
    | cons x xs =>
      have hx := he x List.mem_cons_self
      rw [List.flatMap_cons, List.take_succ_cons, List.flatMap_cons, ← ih fun y hy => he y (List.mem_cons_of_mem _ hy), show (i + 1) * e = (vcells x).length + i * e by rw [hx, Nat.succ_mul]; omega, List.take_append]
      simp
      exact List.take_of_length_le (by omega)
theorem flatv_at {es : List VV} {e : Nat} (he : ∀ x ∈ es, (vcells x).length = e) {j : Nat} {x : VV} (hx : es[j]? = some x) : ((es.flatMap vcells).drop (j * e)).take e = vcells x := by
  obtain ⟨hlt, hx'⟩ := List.getElem?_eq_some_iff.1 hx
  rw [flatv_drop he, List.drop_eq_getElem_cons hlt, hx', List.flatMap_cons, List.take_append, ← he x (List.mem_of_getElem? hx)]
  simp
theorem flatv_splice {es new : List VV} {e : Nat} (he : ∀ x ∈ es, (vcells x).length = e) (hn : ∀ x ∈ new, (vcells x).length = e) (o : Nat) : vsplice (es.flatMap vcells) (o * e) (new.flatMap vcells) = (vsplice es o new).flatMap vcells := by
  unfold vsplice
  rw [flatv_take he, flatv_len hn, show o * e + new.length * e = (o + new.length) * e by rw [Nat.add_mul], flatv_drop he]
  simp
theorem vsplice_one {es : List VV} {j : Nat} {x : VV} (hj : j < es.length) : vsplice es j [x] = es.set j x := by
  unfold vsplice
  rw [List.set_eq_take_append_cons_drop, if_pos hj]
  simp
theorem vsplice_len {cs new : List VV} {o : Nat} (h : o + new.length ≤ cs.length) : (vsplice cs o new).length = cs.length := by
  unfold vsplice
  simp
  omega
theorem vsplice_mem {cs new : List VV} {o : Nat} {x : VV} (h : x ∈ vsplice cs o new) : x ∈ cs ∨ x ∈ new := by
  unfold vsplice at h
  rw [List.mem_append, List.mem_append] at h
  rcases h with (h | h) | h
  · exact .inl (List.mem_of_mem_take h)
  · exact .inr h
  · exact .inl (List.mem_of_mem_drop h)
theorem vcells_elemOf {cs : List VV} (h : cs.all vscal = true) : vcells (elemOf cs) = cs := by
  unfold elemOf
  split
  · rename_i x
    simp only [List.all_cons, List.all_nil, Bool.and_true] at h
    cases x <;> first | rfl | cases h
  · rfl
theorem vrow_some {H : VHeap} {b g : Nat} {es : List VV} {e : Nat} {w : Bool} : vrow H b g = some (es, e, w) ↔ H[b]? = some (.row g es e w) := by
  unfold vrow
  constructor
  · intro h
    split at h
    · rename_i hb
      split at h
      · rename_i hg; subst hg; cases h; exact hb
      · cases h
    · cases h
  · intro h
    rw [h]
    simp
end
structure SR (V : View) (lo lop : Nat) : Prop where
  row : ∀ b g es e w, V.H[b]? = some (.row g es e w) → ∃ r p, V.P[V.m b]? = some (.row r e p) ∧ (∀ x ∈ es, (vcells x).length = e) ∧ VL V (es.flatMap vcells) r
  wr : ∀ b g es e, V.H[b]? = some (.row g es e true) → ¬ V.F (V.m b) ∧ (lo ≤ b → lop ≤ V.m b)
  inj : ∀ a b g es e w g' es' e' w', V.H[a]? = some (.row g es e w) → V.H[b]? = some (.row g' es' e' w') → V.m a = V.m b → a = b
  fr : ∀ b, V.F b → b < V.P.length
  lol : lop ≤ V.P.length
  bas : V.base ≤ V.P.length
structure Eff (lo : Nat) (V V' : View) : Prop extends Up V V' where
  keep : ∀ q, q < V.P.length → (∀ b g es e, V.H[b]? = some (.row g es e true) → lo ≤ b → V.m b ≠ q) → V'.P[q]? = V.P[q]?
  fnew : ∀ q, V'.F q → V.F q ∨ V.P.length ≤ q ∨ ∃ b g es e w, V.H[b]? = some (.row g es e w) ∧ V.m b = q
section
variable {V V' V'' : View} {lo : Nat}
theorem Eff.refl (lo : Nat) (V : View) : Eff lo V V :=
  { Up.refl V with keep := fun _ _ _ => rfl, fnew := fun _ h => .inl h }
theorem Eff.trans (h : Eff lo V V') (h' : Eff lo V' V'') : Eff lo V V'' :=
  { Up.trans h.toUp h'.toUp with
    keep := fun q hq hn => by
      rw [h'.keep q (Nat.lt_of_lt_of_le hq h.plen) ?_, h.keep q hq hn]
      intro b g es e hb hl hm
      obtain ⟨g1, es1, w1, h1, h2, h3⟩ := h.old b g es e true hb (by rw [hm]; exact hq)
      have := h3 rfl
      subst this
      exact hn b g1 es1 e h1 hl (h2.symm.trans hm)
    fnew := fun q hq => by
      rcases h'.fnew q hq with h1 | h1 | ⟨b, g, es, e, w, h1, h2⟩
      · exact h.fnew q h1
      · exact .inr (.inl (Nat.le_trans h.plen h1))
      · rcases Nat.lt_or_ge q V.P.length with hl | hl
        · obtain ⟨g1, es1, w1, h3, h4, _⟩ := h.old b g es e w h1 (by rw [h2]; exact hl)
          exact .inr (.inr ⟨b, g1, es1, e, w1, h3, h4.symm.trans h2⟩)
        · exact .inr (.inl hl) }
end
end Go.PM
/- What is made, written, moved and closed: both sides of it. -/
namespace Go.PM
def upd (m : Nat → Nat) (b v : Nat) : Nat → Nat := fun k => if k = b then v else m k
theorem upd_same {m : Nat → Nat} {b v : Nat} : upd m b v b = v := by simp [upd]
theorem upd_ne {m : Nat → Nat} {b v k : Nat} (h : k ≠ b) : upd m b v k = m k := by simp [upd, h]
section
variable {V : View} {lo lop : Nat}
theorem SR.mlt (hS : SR V lo lop) {b g e : Nat} {es : List VV} {w : Bool} (hb : V.H[b]? = some (.row g es e w)) : V.m b < V.P.length := by
  obtain ⟨r, p, h, _⟩ := hS.row b g es e w hb
  exact (List.getElem?_eq_some_iff.1 h).1
theorem closed_sound (hS : SR V lo lop) (x : Blk) : SR { V with P := V.P ++ [x], F := fun q => V.F q ∨ q = V.P.length } lo lop ∧ Eff lo V { V with P := V.P ++ [x], F := fun q => V.F q ∨ q = V.P.length } := by
  have hU : Up V { V with P := V.P ++ [x], F := fun q => V.F q ∨ q = V.P.length } := ⟨fun _ h => .inl h, fun b hb => List.getElem?_append_left (hS.fr b hb), Nat.le_refl _, fun b g es e w _ h => ⟨g, es, w, h, Nat.le_refl _, fun _ => rfl⟩, rfl, by simp, fun b g es e w hb _ => ⟨g, es, w, hb, rfl, id⟩⟩
  refine ⟨⟨fun b g es e w hb => ?_, fun b g es e hb => ⟨fun hF => ?_, (hS.wr b g es e hb).2⟩, hS.inj, fun b hb => ?_, by have := hS.lol; simp; omega, by have := hS.bas; simp; omega⟩, { hU with keep := fun q hq _ => List.getElem?_append_left hq, fnew := fun q hq => ?_ }⟩
  · obtain ⟨r, p, h1, h2, h3⟩ := hS.row b g es e w hb
    exact ⟨r, p, by rw [← h1]; exact List.getElem?_append_left (hS.mlt hb), h2, h3.mono hU⟩
  · rcases hF with hF | hF
    · exact (hS.wr b g es e hb).1 hF
    · have h1 : V.m b = V.P.length := hF
      have := hS.mlt hb
      omega
  · rcases hb with hb | hb
    · have := hS.fr b hb
      simp; omega
    · subst hb; simp
  · rcases hq with hq | hq
    · exact .inl hq
    · exact .inr (.inl (by omega))
theorem alloc_sound (hS : SR V lo lop) {es : List VV} {r : List Value} {e : Nat} (p : Bool) (he : ∀ x ∈ es, (vcells x).length = e) (hl : VL V (es.flatMap vcells) r) :
    SR { V with m := upd V.m V.H.length V.P.length, H := V.H ++ [.row 0 es e true], P := V.P ++ [.row r e p] } lo lop ∧ Eff lo V { V with m := upd V.m V.H.length V.P.length, H := V.H ++ [.row 0 es e true], P := V.P ++ [.row r e p] } := by
  have old : ∀ b g es' e' w, (V.H ++ [VBlk.row 0 es e true])[b]? = some (.row g es' e' w) → (b = V.H.length ∧ g = 0 ∧ es' = es ∧ e' = e ∧ w = true) ∨ (b ≠ V.H.length ∧ V.H[b]? = some (.row g es' e' w)) := by
    intro b g es' e' w hb
    rcases Nat.lt_trichotomy b V.H.length with h | h | h
    · rw [List.getElem?_append_left h] at hb
      exact .inr ⟨by omega, hb⟩
    · subst h
      rw [List.getElem?_append_right (Nat.le_refl _)] at hb
      simp at hb
      obtain ⟨h1, h2, h3, h4⟩ := hb
      exact .inl ⟨rfl, h1.symm, h2.symm, h3.symm, h4⟩
    · rw [List.getElem?_eq_none (by simp; omega)] at hb
      cases hb
  have hU : Up V { V with m := upd V.m V.H.length V.P.length, H := V.H ++ [.row 0 es e true], P := V.P ++ [.row r e p] } :=
    ⟨fun _ h => h, fun b hb => List.getElem?_append_left (hS.fr b hb), by simp, fun b g' es' e' w' hlt hb => by
      rcases old b g' es' e' w' hb with ⟨h, _⟩ | ⟨h, hb⟩
      · omega
      · exact ⟨g', es', w', hb, Nat.le_refl _, fun _ => upd_ne h⟩, rfl, by simp, fun b g es' e' w hb hm => by
      rcases old b g es' e' w hb with ⟨rfl, _⟩ | ⟨h, hb⟩
      · simp only [upd_same] at hm
        omega
      · exact ⟨g, es', w, hb, upd_ne h, id⟩⟩
  refine ⟨⟨fun b g es' e' w hb => ?_, fun b g es' e' hb => ?_, fun a b g es1 e1 w1 g' es2 e2 w2 ha hb hm => ?_, fun b hb => by have := hS.fr b hb; simp; omega, by have := hS.lol; simp; omega, by have := hS.bas; simp; omega⟩,
    { hU with keep := fun q hq _ => List.getElem?_append_left hq, fnew := fun q hq => .inl hq }⟩
  · rcases old b g es' e' w hb with ⟨rfl, rfl, rfl, rfl, rfl⟩ | ⟨h, hb⟩
    · exact ⟨r, p, by simp only [upd_same]; simp, he, hl.mono hU⟩
    · obtain ⟨r1, p1, h1, h2, h3⟩ := hS.row b g es' e' w hb
      refine ⟨r1, p1, ?_, h2, h3.mono hU⟩
      simp only [upd_ne h]
      rw [List.getElem?_append_left (hS.mlt hb)]
      exact h1
  · rcases old b g es' e' true hb with ⟨rfl, _⟩ | ⟨h, hb⟩
    · simp only [upd_same]
      exact ⟨fun hF => by have := hS.fr _ hF; omega, fun _ => hS.lol⟩
    · simp only [upd_ne h]
      exact hS.wr b g es' e' hb
  · rcases old a g es1 e1 w1 ha with ⟨rfl, _⟩ | ⟨h, ha⟩
    · rcases old b g' es2 e2 w2 hb with ⟨rfl, _⟩ | ⟨h', hb⟩
      · rfl
      · simp only [upd_same, upd_ne h'] at hm
        have := hS.mlt hb
        omega
    · rcases old b g' es2 e2 w2 hb with ⟨rfl, _⟩ | ⟨h', hb⟩
      · simp only [upd_same, upd_ne h] at hm
        have := hS.mlt ha
        omega
      · simp only [upd_ne h, upd_ne h'] at hm
        exact hS.inj a b _ _ _ _ _ _ _ _ ha hb hm
theorem set_row {H : VHeap} {b : Nat} {x : VBlk} (hb : b < H.length) {a : Nat} {y : VBlk} (h : (H.set b x)[a]? = some y) : (a = b ∧ y = x) ∨ (a ≠ b ∧ H[a]? = some y) := by
  by_cases he : a = b
  · subst he
    rw [List.getElem?_set_self hb] at h
    cases h
    exact .inl ⟨rfl, rfl⟩
  · rw [List.getElem?_set_ne (Ne.symm he)] at h
    exact .inr ⟨he, h⟩
theorem write_sound (hS : SR V lo lop) {b g e : Nat} {es es' : List VV} {r' : List Value} (hb : V.H[b]? = some (.row g es e true)) (hlo : lo ≤ b) (he : ∀ x ∈ es', (vcells x).length = e) (hl : VL V (es'.flatMap vcells) r') {r : List Value} {p : Bool} (hp : V.P[V.m b]? = some (.row r e p)) :
    SR { V with H := V.H.set b (.row g es' e true), P := V.P.set (V.m b) (.row r' e p) } lo lop ∧ Eff lo V { V with H := V.H.set b (.row g es' e true), P := V.P.set (V.m b) (.row r' e p) } := by
  have hbl := (List.getElem?_eq_some_iff.1 hb).1
  have hpl := hS.mlt hb
  have hU : Up V { V with H := V.H.set b (.row g es' e true), P := V.P.set (V.m b) (.row r' e p) } :=
    ⟨fun _ h => h, fun q hq => List.getElem?_set_ne (fun h => (hS.wr b g es e hb).1 (by rw [h]; exact hq)), by simp, fun a g' es1 e1 w1 hlt ha => by
      rcases set_row hbl ha with ⟨rfl, h⟩ | ⟨_, h⟩
      · cases h
        exact ⟨g, es, true, hb, Nat.le_refl _, fun _ => rfl⟩
      · exact ⟨g', es1, w1, h, Nat.le_refl _, fun _ => rfl⟩, rfl, by simp, fun a g1 es1 e1 w1 ha _ => by
      rcases set_row hbl ha with ⟨rfl, h⟩ | ⟨hne, h⟩
      · cases h
        exact ⟨g, es, true, hb, rfl, fun _ => rfl⟩
      · exact ⟨g1, es1, w1, h, rfl, id⟩⟩
  refine ⟨⟨fun a g1 es1 e1 w1 ha => ?_, fun a g1 es1 e1 ha => ?_, fun a c g1 es1 e1 w1 g2 es2 e2 w2 ha hc hm => ?_, fun q hq => by have := hS.fr q hq; simp; omega, by have := hS.lol; simp; omega, by have := hS.bas; simp; omega⟩,
    { hU with keep := fun q hq hn => List.getElem?_set_ne (hn b g es e hb hlo), fnew := fun q hq => .inl hq }⟩
  · rcases set_row hbl ha with ⟨rfl, h⟩ | ⟨hne, h⟩
    · cases h
      exact ⟨r', p, List.getElem?_set_self hpl, he, hl.mono hU⟩
    · obtain ⟨r1, p1, h1, h2, h3⟩ := hS.row a g1 es1 e1 w1 h
      exact ⟨r1, p1, by rw [← h1]; exact List.getElem?_set_ne (fun hm => hne (hS.inj _ _ _ _ _ _ _ _ _ _ h hb hm.symm)), h2, h3.mono hU⟩
  · rcases set_row hbl ha with ⟨rfl, h⟩ | ⟨hne, h⟩
    · cases h
      exact hS.wr _ _ _ _ hb
    · exact hS.wr _ _ _ _ h
  · rcases set_row hbl ha with ⟨rfl, h⟩ | ⟨hne, h⟩ <;> rcases set_row hbl hc with ⟨rfl, h'⟩ | ⟨hne', h'⟩
    · rfl
    · exact hS.inj _ _ _ _ _ _ _ _ _ _ hb h' hm
    · exact hS.inj _ _ _ _ _ _ _ _ _ _ h hb hm
    · exact hS.inj _ _ _ _ _ _ _ _ _ _ h h' hm
theorem move_sound (hS : SR V lo lop) {b g e : Nat} {es es' : List VV} {r' : List Value} (hb : V.H[b]? = some (.row g es e true)) (hlo : lo ≤ b) (he : ∀ x ∈ es', (vcells x).length = e) (hl : VL V (es'.flatMap vcells) r') {P1 : Heap} (hP : P1.length = V.P.length) (hk : ∀ q, q ≠ V.m b → P1[q]? = V.P[q]?) (p : Bool) :
    SR { V with m := upd V.m b V.P.length, H := V.H.set b (.row (g + 1) es' e true), P := P1 ++ [.row r' e p] } lo lop ∧ Eff lo V { V with m := upd V.m b V.P.length, H := V.H.set b (.row (g + 1) es' e true), P := P1 ++ [.row r' e p] } := by
  have hbl := (List.getElem?_eq_some_iff.1 hb).1
  have hpl := hS.mlt hb
  have hget : ∀ q, q < V.P.length → q ≠ V.m b → (P1 ++ [Blk.row r' e p])[q]? = V.P[q]? := fun q hq hn => by rw [List.getElem?_append_left (by omega)]; exact hk q hn
  have hU : Up V { V with m := upd V.m b V.P.length, H := V.H.set b (.row (g + 1) es' e true), P := P1 ++ [.row r' e p] } :=
    ⟨fun _ h => h, fun q hq => hget q (hS.fr q hq) (fun h => (hS.wr b g es e hb).1 (by rw [← h]; exact hq)), by simp, fun a g' es1 e1 w1 hlt ha => by
      rcases set_row hbl ha with ⟨rfl, h⟩ | ⟨hne, h⟩
      · cases h
        exact ⟨g, es, true, hb, by omega, fun h => by omega⟩
      · exact ⟨g', es1, w1, h, Nat.le_refl _, fun _ => upd_ne hne⟩, rfl, by simp; omega, fun a g1 es1 e1 w1 ha hm => by
      rcases set_row hbl ha with ⟨rfl, h⟩ | ⟨hne, h⟩
      · simp only [upd_same] at hm
        omega
      · exact ⟨g1, es1, w1, h, upd_ne hne, id⟩⟩
  refine ⟨⟨fun a g1 es1 e1 w1 ha => ?_, fun a g1 es1 e1 ha => ?_, fun a c g1 es1 e1 w1 g2 es2 e2 w2 ha hc hm => ?_, fun q hq => by have := hS.fr q hq; simp; omega, by have := hS.lol; simp; omega, by have := hS.bas; simp; omega⟩,
    { hU with keep := fun q hq hn => hget q hq (Ne.symm (hn b g es e hb hlo)), fnew := fun q hq => .inl hq }⟩
  · rcases set_row hbl ha with ⟨rfl, h⟩ | ⟨hne, h⟩
    · cases h
      refine ⟨r', p, ?_, he, hl.mono hU⟩
      simp only [upd_same]
      rw [← hP]
      simp
    · obtain ⟨r1, p1, h1, h2, h3⟩ := hS.row a g1 es1 e1 w1 h
      refine ⟨r1, p1, ?_, h2, h3.mono hU⟩
      simp only [upd_ne hne]
      rw [hget _ (hS.mlt h) (fun hm => hne (hS.inj _ _ _ _ _ _ _ _ _ _ h hb hm))]
      exact h1
  · rcases set_row hbl ha with ⟨rfl, h⟩ | ⟨hne, h⟩
    · cases h
      simp only [upd_same]
      exact ⟨fun hF => by have := hS.fr _ hF; omega, fun _ => hS.lol⟩
    · simp only [upd_ne hne]
      exact hS.wr _ _ _ _ h
  · rcases set_row hbl ha with ⟨rfl, h⟩ | ⟨hne, h⟩ <;> rcases set_row hbl hc with ⟨rfl, h'⟩ | ⟨hne', h'⟩
    · rfl
    · simp only [upd_same, upd_ne hne'] at hm
      have := hS.mlt h'
      omega
    · simp only [upd_same, upd_ne hne] at hm
      have := hS.mlt h
      omega
    · simp only [upd_ne hne, upd_ne hne'] at hm
      exact hS.inj _ _ _ _ _ _ _ _ _ _ h h' hm
def View.freeze (V : View) (b : Nat) : View :=
  match V.H[b]? with
  | some (.row _ _ _ _) => { V with H := freeze1 V.H b, F := fun q => V.F q ∨ q = V.m b }
  | _ => V
theorem freeze_H (V : View) (b : Nat) : (V.freeze b).H = freeze1 V.H b := by
  unfold View.freeze freeze1
  cases h : V.H[b]? with
  | none => rfl
  | some x => cases x <;> rfl
theorem freeze_P (V : View) (b : Nat) : (V.freeze b).P = V.P := by
  unfold View.freeze
  split <;> rfl
theorem freeze_m (V : View) (b : Nat) : (V.freeze b).m = V.m := by
  unfold View.freeze
  split <;> rfl
theorem freeze_sound (hS : SR V lo lop) (b : Nat) : SR (V.freeze b) lo lop ∧ Eff lo V (V.freeze b) ∧ (∀ g es e w, V.H[b]? = some (.row g es e w) → (V.freeze b).F (V.m b)) := by
  unfold View.freeze
  split
  case h_2 hne => exact ⟨hS, Eff.refl _ _, fun g es e w h => absurd h (hne _ _ _ _)⟩
  rename_i g es e w hb
  have hbl := (List.getElem?_eq_some_iff.1 hb).1
  have hf : freeze1 V.H b = V.H.set b (.row g es e false) := by unfold freeze1; rw [hb]
  rw [hf]
  have hU : Up V { V with H := V.H.set b (.row g es e false), F := fun q => V.F q ∨ q = V.m b } :=
    ⟨fun _ h => .inl h, fun _ _ => rfl, by simp, fun a g' es1 e1 w1 hlt ha => by
      rcases set_row hbl ha with ⟨rfl, h⟩ | ⟨_, h⟩
      · cases h
        exact ⟨g, es, w, hb, Nat.le_refl _, fun _ => rfl⟩
      · exact ⟨g', es1, w1, h, Nat.le_refl _, fun _ => rfl⟩, rfl, Nat.le_refl _, fun a g1 es1 e1 w1 ha hm => by
      rcases set_row hbl ha with ⟨rfl, h⟩ | ⟨hne, h⟩
      · cases h
        exact ⟨g, es, w, hb, rfl, fun h => by cases h⟩
      · exact ⟨g1, es1, w1, h, rfl, id⟩⟩
  refine ⟨⟨fun a g1 es1 e1 w1 ha => ?_, fun a g1 es1 e1 ha => ?_, fun a c g1 es1 e1 w1 g2 es2 e2 w2 ha hc hm => ?_, fun q hq => ?_, hS.lol, hS.bas⟩,
    { hU with keep := fun q hq hn => rfl, fnew := fun q hq => ?_ }, fun _ _ _ _ _ => .inr rfl⟩
  · rcases set_row hbl ha with ⟨rfl, h⟩ | ⟨hne, h⟩
    · cases h
      obtain ⟨r1, p1, h1, h2, h3⟩ := hS.row _ _ _ _ _ hb
      exact ⟨r1, p1, h1, h2, h3.mono hU⟩
    · obtain ⟨r1, p1, h1, h2, h3⟩ := hS.row _ _ _ _ _ h
      exact ⟨r1, p1, h1, h2, h3.mono hU⟩
  · rcases set_row hbl ha with ⟨rfl, h⟩ | ⟨hne, h⟩
    · cases h
    · refine ⟨fun hF => ?_, (hS.wr _ _ _ _ h).2⟩
      rcases hF with hF | hF
      · exact (hS.wr _ _ _ _ h).1 hF
      · exact hne (hS.inj _ _ _ _ _ _ _ _ _ _ h hb hF)
  · rcases set_row hbl ha with ⟨rfl, h⟩ | ⟨hne, h⟩ <;> rcases set_row hbl hc with ⟨rfl, h'⟩ | ⟨hne', h'⟩
    · rfl
    · exact hS.inj _ _ _ _ _ _ _ _ _ _ hb h' hm
    · exact hS.inj _ _ _ _ _ _ _ _ _ _ h hb hm
    · exact hS.inj _ _ _ _ _ _ _ _ _ _ h h' hm
  · rcases hq with hq | hq
    · exact hS.fr q hq
    · subst hq; exact hS.mlt hb
  · rcases hq with hq | hq
    · exact .inl hq
    · exact .inr (.inr ⟨b, g, es, e, w, hb, hq.symm⟩)
end
end Go.PM
/- Each operation of the logic is one of the pure machine. -/
namespace Go.PM
section
variable {V : View} {lo lop : Nat} {ρ : VEnv} {ρp : Env}
def ER (V : View) (ρ : VEnv) (ρp : Env) : Prop := ∀ t, VR V (ρ t) (ρp t)
theorem ER.mono {V' : View} (u : Up V V') (h : ER V ρ ρp) : ER V' ρ ρp := fun t => (h t).mono u
theorem ER.ev (h : ER V ρ ρp) (x : Operand) : VR V (vev ρ x) (ev ρp x) := by
  cases x with
  | tmp t => exact h t
  | const v => exact VR.inj v
  | global g => exact .any _
  | func f => exact .clo f [] [] .nil
theorem ER.put {d : Option Nat} {x : VV} {v : Value} (h : ER V ρ ρp) (hx : VR V x v) : ER V (vput ρ d x) (put ρp d v) := by
  cases d with
  | none => exact h
  | some d =>
    intro t
    simp only [vput, PM.put]
    split
    · exact hx
    · exact h t
theorem ER.evs (h : ER V ρ ρp) (xs : List Operand) : VL V (xs.map (vev ρ)) (xs.map (PM.ev ρp)) := VL.map fun x _ => h.ev x
def OpOk (lo lop : Nat) (V : View) (r : Option (Value × Heap)) (v : VV) (H' : VHeap) : Prop :=
  ∃ pv V', r = some (pv, V'.P) ∧ V'.H = H' ∧ SR V' lo lop ∧ Eff lo V V' ∧ VR V' v pv
theorem OpOk.pure (hS : SR V lo lop) {r : Option Value} {v : VV} {pv : Value} (h : r = some pv) (hv : VR V v pv) : OpOk lo lop V (r.map (·, V.P)) v V.H :=
  ⟨pv, V, by rw [h]; rfl, rfl, hS, Eff.refl _ _, hv⟩
theorem OpOk.of {V' : View} {pv : Value} {v : VV} (h : SR V' lo lop ∧ Eff lo V V') (hv : VR V' v pv) : OpOk lo lop V (some (pv, V'.P)) v V'.H := ⟨pv, V', rfl, rfl, h.1, h.2, hv⟩
theorem OpOk.same (hS : SR V lo lop) {v : VV} {pv : Value} (hv : VR V v pv) : OpOk lo lop V (some (pv, V.P)) v V.H :=
  ⟨pv, V, rfl, rfl, hS, Eff.refl _ _, hv⟩
theorem map_some' {α β : Type} {o : Option α} {f : α → β} {b : β} (h : o.map f = some b) : ∃ a, o = some a ∧ f a = b := by
  cases o with
  | none => cases h
  | some a => cases h; exact ⟨a, rfl, rfl⟩
theorem vev_sc {x : VV} {v u : Value} (h : VR V x u) (hx : x = .sc v) : u = v ∧ isSc v = true := by
  subst hx
  cases h with
  | sc v h => exact ⟨rfl, h⟩
theorem isSc_bin {op : BinOp} {a b c : Value} (h : pbin op a b = some c) : isSc c = true := by
  unfold pbin at h
  split at h
  · split at h <;> cases h; rfl
  · split at h <;> cases h; rfl
  · split at h
    · split at h <;> first | (cases h; rfl) | (split at h <;> cases h <;> rfl) | cases h
    · cases h
  · split at h <;> first | (cases h; rfl) | (split at h <;> cases h <;> rfl) | cases h
  · cases h
theorem isSc_un {op : UnOp} {a c : Value} (h : pun op a = some c) : isSc c = true := by
  unfold pun at h
  split at h <;> cases h <;> rfl
theorem isSc_eqb {n : Bool} {a b c : Value} (h : eqbV n a b = some c) : isSc c = true := by
  unfold eqbV at h
  split at h <;> cases h; rfl
theorem isSc_cvt {k : IntKind} {a c : Value} (h : cvtV k a = some c) : isSc c = true := by
  unfold cvtV at h
  split at h <;> cases h; rfl
theorem isSc_cvs {a c : Value} (h : cvsV a = some c) : isSc c = true := by
  unfold cvsV at h
  split at h <;> cases h; rfl
theorem isSc_slen {a c : Value} (h : slenV a = some c) : isSc c = true := by
  unfold slenV at h
  split at h <;> cases h; rfl
theorem isSc_sidx {a b c : Value} (h : sidxV a b = some c) : isSc c = true := by
  unfold sidxV at h
  split at h
  · split at h <;> cases h; rfl
  · cases h
theorem isSc_min {a b c : Value} (h : minV a b = some c) : isSc c = true := by
  unfold minV at h
  split at h <;> cases h; rfl
theorem isSc_max {a b c : Value} (h : maxV a b = some c) : isSc c = true := by
  unfold maxV at h
  split at h <;> cases h; rfl
theorem sc1_sound (hS : SR V lo lop) {f : Value → Option Value} (hf : ∀ a c, f a = some c → isSc c = true) {x v : VV} {u : Value} (hx : VR V x u) (h : vsc1 f x = some v) : OpOk lo lop V ((f u).map (·, V.P)) v V.H := by
  unfold vsc1 at h
  split at h
  · obtain ⟨h1, _⟩ := vev_sc hx rfl
    subst h1
    obtain ⟨c, hc, rfl⟩ := map_some' h
    exact OpOk.pure hS hc (.sc _ (hf _ _ hc))
  · cases h
theorem sc2_sound (hS : SR V lo lop) {f : Value → Value → Option Value} (hf : ∀ a b c, f a b = some c → isSc c = true) {x y v : VV} {u w : Value} (hx : VR V x u) (hy : VR V y w) (h : vsc2 f x y = some v) : OpOk lo lop V ((f u w).map (·, V.P)) v V.H := by
  unfold vsc2 at h
  split at h
  · obtain ⟨h1, _⟩ := vev_sc hx rfl
    obtain ⟨h2, _⟩ := vev_sc hy rfl
    subst h1 h2
    obtain ⟨c, hc, rfl⟩ := map_some' h
    exact OpOk.pure hS hc (.sc _ (hf _ _ _ hc))
  · cases h
theorem window {α : Type} (l : List α) {o n a k : Nat} (h : a + k ≤ n) : (((l.drop o).take n).drop a).take k = (l.drop (o + a)).take k := by
  rw [List.drop_take, List.take_take, List.drop_drop, Nat.min_eq_left (by omega)]
theorem rd_sound {x v : VV} {agg : Bool} {size off b o e : Nat} {r : List Value} {p : Bool} (hb : V.P[b]? = some (.row r e p)) (ho : o + (vcells x).length ≤ r.length) (hl : VL V (vcells x) ((r.drop o).take (vcells x).length)) (h : rdCells agg size x off = some v) :
    ∃ u, pload agg size (.pointer (some ⟨b, o + off, none⟩)) V.P = some u ∧ VR V v u := by
  unfold rdCells at h
  cases agg with
  | true =>
    simp only [if_true] at h
    split at h
    · rename_i hs
      cases h
      refine ⟨.agg ((r.drop (o + off)).take size).toArray, ?_, .agg _ _ ?_⟩
      · simp only [pload, if_true, read_row hb (show o + off + size ≤ r.length by omega)]
        rfl
      · have := (hl.drop off).take size
        rw [window _ hs] at this
        exact this
    · cases h
  | false =>
    simp only [Bool.false_eq_true, if_false] at h
    obtain ⟨u, hu, hv⟩ := hl.get h
    have hoff := (List.getElem?_eq_some_iff.1 h).1
    rw [List.getElem?_take, if_pos hoff, List.getElem?_drop] at hu
    refine ⟨u, ?_, hv⟩
    have hlt := (List.getElem?_eq_some_iff.1 hu).1
    simp only [pload, Bool.false_eq_true, if_false, read_row hb (show o + off + 1 ≤ r.length by omega)]
    rw [List.drop_eq_getElem_cons hlt]
    simp only [List.take_succ_cons, List.take_zero]
    rw [List.getElem?_eq_getElem hlt] at hu
    injection hu with hu
    rw [hu]
theorem elem_sound (hS : SR V lo lop) {b g e j : Nat} {es : List VV} {w : Bool} {x : VV} (hb : V.H[b]? = some (.row g es e w)) (hx : es[j]? = some x) :
    ∃ r p, V.P[V.m b]? = some (.row r e p) ∧ (vcells x).length = e ∧ j * e + (vcells x).length ≤ r.length ∧ VL V (vcells x) ((r.drop (j * e)).take (vcells x).length) := by
  obtain ⟨r, p, h1, h2, h3⟩ := hS.row b g es e w hb
  have hxe := h2 x (List.mem_of_getElem? hx)
  have hj := (List.getElem?_eq_some_iff.1 hx).1
  have hlen := h3.length
  rw [flatv_len h2] at hlen
  have hm : (j + 1) * e ≤ es.length * e := Nat.mul_le_mul_right _ hj
  rw [Nat.succ_mul] at hm
  refine ⟨r, p, h1, hxe, by omega, ?_⟩
  have := (h3.drop (j * e)).take e
  rw [flatv_at h2 hx] at this
  rw [hxe]
  exact this
theorem load_sound (hS : SR V lo lop) {p v : VV} {u : Value} {agg : Bool} {size : Nat} (hp : VR V p u) (h : vload agg size p V.H = some v) : ∃ w, pload agg size u V.P = some w ∧ VR V v w := by
  unfold vload at h
  split at h
  · cases hp with
    | tptr x off b o r e p hF hb ho hl => exact rd_sound hb ho hl h
  · split at h
    · rename_i es e w hr
      rw [vrow_some] at hr
      split at h
      · rename_i x hx
        cases hp with
        | ptr b g j off a hlt hg ha hq =>
          have := ha _ _ _ hr
          subst this
          obtain ⟨r, p, h1, h2, h3, h4⟩ := elem_sound hS hr hx
          exact rd_sound h1 h3 h4 h
      · cases h
    · cases h
  · cases h
theorem iaddr_sound (hS : SR V lo lop) {x i v : VV} {u k : Value} {size : Nat} (hx : VR V x u) (hi : VR V i k) (h : viaddr size x i V.H = some v) : ∃ w, iaddrV size u k = some w ∧ VR V v w := by
  unfold viaddr at h
  split at h
  · rename_i es tk ik i
    obtain ⟨rfl, _⟩ := vev_sc hi rfl
    split at h
    · rename_i h0
      split at h
      · rename_i y hy
        split at h
        · rename_i hsz
          cases h
          have hlt := (List.getElem?_eq_some_iff.1 hy).1
          cases hx with
          | tnil => simp at hlt
          | tree es k b o c r e p hF hb ho hc he hk hl =>
            have hye := he y (List.mem_of_getElem? hy)
            have hes : e = size := by omega
            subst hes
            have hm : (i.toNat + 1) * e ≤ es.length * e := Nat.mul_le_mul_right _ hlt
            rw [Nat.succ_mul] at hm
            refine ⟨_, iaddr_at h0 (by omega), ?_⟩
            have h1 := (hl.drop (i.toNat * e)).take e
            rw [flatv_at he hy, window _ (by omega)] at h1
            exact .tptr y 0 b (o + i.toNat * e) r e p hF hb (by omega) (by rw [hye]; exact h1)
        · cases h
      · cases h
    · cases h
  · rename_i b g o n c ik i
    obtain ⟨rfl, _⟩ := vev_sc hi rfl
    split at h
    · rename_i es e w hr
      rw [vrow_some] at hr
      split at h
      · rename_i hc
        obtain ⟨rfl, h0, h1⟩ := hc
        cases h
        cases hx with
        | ref b g o n c a n' c' hlt hg ha hq =>
          obtain ⟨rfl, rfl, rfl⟩ := ha _ _ _ hr
          refine ⟨_, iaddr_at h0 h1, .ptr b g (o + i.toNat) 0 _ hlt hg (fun es' e' w' hr' => ?_) fun a0 h => by cases h; exact hq ⟨V.m b, o * e, none⟩ rfl⟩
          rw [hr] at hr'
          cases hr'
          rw [Nat.add_mul, Nat.add_zero]
      · cases h
    · cases h
  · cases h
theorem num_sound {l : Option Operand} {lv : Option Value} (hE : ER V ρ ρp) (h : vnum (l.map (vev ρ)) = some lv) : l.map (ev ρp) = lv := by
  cases l with
  | none => cases h; rfl
  | some x =>
    simp only [Option.map_some, vnum] at h
    split at h
    · rename_i hv; cases hv
    · rename_i v hv
      cases h
      injection hv with hv
      obtain ⟨h1, _⟩ := vev_sc (hE.ev x) hv
      rw [Option.map_some, h1]
    · cases h
theorem pbound_le {v : Option Value} {d : Option Nat} {t x : Nat} (hd : ∀ y, d = some y → y ≤ t) (h : pbound v d t = some x) : x ≤ t := by
  unfold pbound at h
  split at h
  · exact hd _ h
  · split at h
    · cases h; omega
    · cases h
  · cases h
theorem pbound_up {v : Option Value} {d d' : Option Nat} {t t' x : Nat} (ht : t ≤ t') (hd : v = none → d = d') (h : pbound v d t = some x) : pbound v d' t' = some x := by
  unfold pbound at h ⊢
  cases v with
  | none => rw [← hd rfl]; exact h
  | some v =>
    cases v with
    | int k i =>
      simp only at h ⊢
      split at h
      · rename_i h1; rw [if_pos (by omega)]; exact h
      · cases h
    | _ => simp only at h ⊢; exact h
theorem closed_ok (hS : SR V lo lop) (size : Nat) : OpOk lo lop V (some (.slice (some ⟨V.P.length, 0, none⟩) 0 0, V.P ++ [.row [] size false])) (.tree [] (.cl size)) V.H := by
  exact (OpOk.of (closed_sound hS (.row [] size false)) (.tree [] (.cl size) V.P.length 0 0 [] size false (.inr rfl) (by simp) (by simp) (by simp) (fun x hx => by cases hx) ⟨rfl, rfl, rfl⟩ (by simp; exact .nil)) :)
theorem sub_sound (hS : SR V lo lop) (hE : ER V ρ ρp) {x v : VV} {u : Value} {size : Nat} {l h m : Option Operand} (hx : VR V x u) (hv : vsub size x (l.map (vev ρ)) (h.map (vev ρ)) (m.map (vev ρ)) V.H = some v) :
    OpOk lo lop V (psub size u (l.map (ev ρp)) (h.map (ev ρp)) (m.map (ev ρp)) V.P) v V.H := by
  unfold vsub at hv
  split at hv
  case h_2 => cases hv
  rename_i lv hhv mv hl hh hm
  rw [num_sound hE hl, num_sound hE hh, num_sound hE hm]
  split at hv
  · rename_i y ys tk
    split at hv
    case isFalse => cases hv
    rename_i hsz
    split at hv
    · cases hv
    rename_i m0 hm0
    split at hv
    · cases hv
    rename_i h0 hh0
    split at hv
    · cases hv
    rename_i l0 hl0
    cases hx with
    | tree es k b o c r e p hF hb ho hc he hk hl =>
      have hes : e = size := by rw [← he y List.mem_cons_self]; exact hsz
      subst hes
      have hlen : (y :: ys).length = ys.length + 1 := rfl
      rw [hlen] at ho hc
      have b1 : m0 ≤ ys.length + 1 := pbound_le (fun z hz => by injection hz with hz; omega) hm0
      have b2 : h0 ≤ m0 := by
        refine pbound_le (fun z hz => ?_) hh0
        split at hz
        · cases hz
        · rename_i hmn
          injection hz with hz
          have : mv = none := by cases mv <;> simp_all
          subst this
          simp [pbound] at hm0
          omega
      have b3 : l0 ≤ h0 := pbound_le (fun z hz => by injection hz with hz; omega) hl0
      have e1 : pbound mv (some c) c = some (if mv.isSome then m0 else c) := by
        cases mv with
        | none => rfl
        | some q => exact pbound_up hc (fun hq => by cases hq) hm0
      have e2 : pbound hhv (if mv.isSome then none else some (ys.length + 1)) (if mv.isSome then m0 else c) = some h0 := by
        cases mv with
        | none =>
          simp only [Option.isSome_none, Bool.false_eq_true, if_false] at hh0 ⊢
          exact pbound_up (by omega) (fun _ => rfl) hh0
        | some q => exact hh0
      unfold psub
      simp only [hb, if_true]
      rw [e1]
      simp only
      rw [hlen, e2]
      simp only
      rw [hl0]
      simp only
      by_cases hcl : mv.isSome = true ∧ m0 = l0
      · rw [if_pos hcl] at hv
        cases hv
        rw [if_pos ⟨hcl.1, by rw [if_pos hcl.1]; exact hcl.2⟩]
        exact closed_ok hS e
      · rw [if_neg hcl] at hv
        cases hv
        rw [if_neg (fun hh => hcl ⟨hh.1, by have := hh.2; rw [if_pos hh.1] at this; exact this⟩)]
        have hlt : (((y :: ys).drop l0).take (h0 - l0)).length = h0 - l0 := by simp; omega
        have hm1 : l0 * e + (h0 - l0) * e = h0 * e := by rw [← Nat.add_mul]; congr 1; omega
        have hm2 : h0 * e ≤ (ys.length + 1) * e := Nat.mul_le_mul_right _ (by omega)
        have hcc : h0 - l0 ≤ (if mv.isSome then m0 else c) - l0 := by split <;> omega
        have := VR.tree (V := V) (((y :: ys).drop l0).take (h0 - l0)) .op b (o + l0 * e) ((if mv.isSome then m0 else c) - l0) r e p hF hb (by rw [hlt]; omega) (by rw [hlt]; exact hcc) (fun z hz => he z (List.mem_of_mem_drop (List.mem_of_mem_take hz))) trivial (by
          rw [hlt]
          have h1 := (hl.drop (l0 * e)).take ((h0 - l0) * e)
          rw [window _ (by rw [hlen]; omega), flatv_drop he, flatv_take (fun z hz => he z (List.mem_of_mem_drop hz))] at h1
          exact h1)
        rw [hlt] at this
        exact OpOk.same hS this
  · rename_i b g o n c
    split at hv
    case h_2 => cases hv
    rename_i es e w hr
    rw [vrow_some] at hr
    split at hv
    case isFalse => cases hv
    rename_i hsz
    subst hsz
    split at hv
    · cases hv
    rename_i m0 hm0
    split at hv
    · cases hv
    rename_i h0 hh0
    split at hv
    · cases hv
    rename_i l0 hl0
    cases hx with
    | ref b g o n c a n' c' hlt hg ha hq =>
      obtain ⟨rfl, rfl, rfl⟩ := ha _ _ _ hr
      obtain ⟨r, p, h1, _⟩ := hS.row b g es e w hr
      unfold psub
      simp only [h1, if_true]
      rw [hm0]
      simp only
      rw [hh0]
      simp only
      rw [hl0]
      simp only
      by_cases hcl : mv.isSome = true ∧ m0 = l0
      · rw [if_pos hcl] at hv
        cases hv
        rw [if_pos hcl]
        exact closed_ok hS e
      · rw [if_neg hcl] at hv
        cases hv
        rw [if_neg hcl]
        refine OpOk.same hS (.ref b g (o + l0) _ _ _ _ _ hlt hg (fun es' e' w' hr' => ?_) fun a0 h => by cases h; exact hq ⟨V.m b, o * e, none⟩ rfl)
        rw [hr] at hr'
        cases hr'
        exact ⟨by rw [Nat.add_mul], rfl, rfl⟩
  · cases hv
theorem all_flat {es : List VV} (h : (es.all fun x => (vcells x).all vscal) = true) : (es.flatMap vcells).all vscal = true := by
  rw [List.all_eq_true] at h ⊢
  intro x hx
  obtain ⟨y, hy, hxy⟩ := List.mem_flatMap.1 hx
  exact List.all_eq_true.1 (h y hy) x hxy
theorem source_sound (hS : SR V lo lop) {y : VV} {u : Value} {size : Nat} {new : List VV} (hy : VR V y u) (h : vsource size y V.H = some new) :
    plenOf u = some new.length ∧ (∀ x ∈ new, (vcells x).length = size) ∧ (new.flatMap vcells).all vscal = true ∧ ∀ n, n ≤ new.length → ∃ pn, psource V.P size n u = some pn ∧ VL V ((new.take n).flatMap vcells) pn := by
  unfold vsource at h
  split at h
  · rename_i es tk
    split at h
    case isFalse => cases h
    rename_i hall
    cases h
    have hall' : ∀ x ∈ new, (vcells x).length = size ∧ (vcells x).all vscal = true := fun x hx => by
      have := List.all_eq_true.1 hall x hx
      simpa using this
    refine ⟨?_, fun x hx => (hall' x hx).1, all_flat (List.all_eq_true.2 fun x hx => (hall' x hx).2), fun n hn => ?_⟩
    · cases hy <;> rfl
    · cases hy with
      | tnil k hk =>
        have : n = 0 := by simpa using hn
        subst this
        exact ⟨[], rfl, by simp; exact .nil⟩
      | tree es k b o c r e p hF hb ho hc he hk hl =>
        cases hes : new with
        | nil =>
          rw [hes] at hn
          have : n = 0 := by simpa using hn
          subst this
          refine ⟨[], ?_, by simp; exact .nil⟩
          simp only [psource, Nat.zero_mul]
          rw [read_row hb (by omega)]
          simp
        | cons x xs =>
          have hxs : e = size := by rw [← he x (by rw [hes]; exact List.mem_cons_self)]; exact (hall' x (by rw [hes]; exact List.mem_cons_self)).1
          subst hxs
          have hm : n * e ≤ new.length * e := Nat.mul_le_mul_right _ hn
          refine ⟨_, by simp only [psource]; exact read_row hb (by omega), ?_⟩
          rw [← hes, ← flatv_take he]
          have h1 := hl.take (n * e)
          rw [List.take_take, Nat.min_eq_left hm] at h1
          exact h1
  · rename_i b g o n c
    split at h
    case h_2 => cases h
    rename_i es e w hr
    rw [vrow_some] at hr
    split at h
    case isFalse => cases h
    rename_i hc
    obtain ⟨rfl, hlen, hall⟩ := hc
    cases h
    obtain ⟨r, p, h1, h2, h3⟩ := hS.row b g es e w hr
    have hn2 : ((es.drop o).take n).length = n := by simp; omega
    have hrl := h3.length
    rw [flatv_len h2] at hrl
    cases hy with
    | ref b g o n c a n' c' hlt hg ha hq =>
      obtain ⟨rfl, rfl, rfl⟩ := ha _ _ _ hr
      have hsub : ∀ x ∈ (es.drop o).take n', (vcells x).length = e := fun x hx => h2 x (List.mem_of_mem_drop (List.mem_of_mem_take hx))
      refine ⟨by rw [hn2]; rfl, hsub, all_flat hall, fun k hk => ?_⟩
      rw [hn2] at hk
      have hm : (o + k) * e ≤ es.length * e := Nat.mul_le_mul_right _ (by omega)
      rw [Nat.add_mul] at hm
      refine ⟨_, by simp only [psource]; exact read_row h1 (by omega), ?_⟩
      rw [List.take_take, Nat.min_eq_left hk]
      have h4 := (h3.drop (o * e)).take (k * e)
      rw [flatv_drop h2, flatv_take (fun x hx => h2 x (List.mem_of_mem_drop hx))] at h4
      exact h4
  · rename_i s
    split at h
    case isFalse => cases h
    rename_i hs
    subst hs
    cases h
    obtain ⟨rfl, _⟩ := vev_sc hy rfl
    have hlen : (s.data.toList.map fun b => VV.sc (.int .u8 (b.toNat : Int))).length = s.size := by simp
    refine ⟨by rw [hlen]; rfl, fun x hx => ?_, ?_, fun n hn => ?_⟩
    · obtain ⟨b, _, rfl⟩ := List.mem_map.1 hx
      rfl
    · refine all_flat (List.all_eq_true.2 fun x hx => ?_)
      obtain ⟨b, _, rfl⟩ := List.mem_map.1 hx
      rfl
    · refine ⟨(s.data.toList.take n).map fun b => Value.int .u8 (b.toNat : Int), by simp only [psource, if_true], ?_⟩
      rw [← List.map_take, List.flatMap_map]
      have : ((s.data.toList.take n).flatMap fun a => vcells (VV.sc (.int .u8 (a.toNat : Int)))) = (s.data.toList.take n).map fun a => VV.sc (.int .u8 (a.toNat : Int)) := by
        generalize s.data.toList.take n = l
        induction l with
        | nil => rfl
        | cons a l ih => rw [List.flatMap_cons, ih]; rfl
      rw [this]
      exact VL.map fun b _ => .sc _ rfl
  · cases h
end
end Go.PM
/- What is made, written and appended. -/
namespace Go.PM
section
variable {V : View} {lo lop : Nat} {ρ : VEnv} {ρp : Env}
theorem ref_new (hS : SR V lo lop) {es : List VV} {r : List Value} {e n c : Nat} {p : Bool} : VR { V with m := upd V.m V.H.length V.P.length, H := V.H ++ [.row 0 es e true], P := V.P ++ [.row r e p] } (.ref V.H.length 0 0 n c) (.slice (some ⟨V.P.length, 0, none⟩) n c) := by
  refine .ref _ _ _ _ _ _ _ _ (by simp) (fun g' es e w _ => Nat.zero_le _) (fun es' e' w' h => ⟨?_, rfl, rfl⟩) fun a0 ha => ?_
  · simp only [upd_same, Nat.zero_mul]
  · cases ha
    refine ⟨hS.bas, by simp, fun b' g' es' e' w' hb hne hm => ?_⟩
    have hb' : (V.H ++ [VBlk.row 0 es e true])[b']? = some (.row g' es' e' w') := hb
    have hlt : b' < V.H.length := by
      have := (List.getElem?_eq_some_iff.1 hb').1
      simp at this
      omega
    rw [List.getElem?_append_left hlt] at hb'
    have h2 := hS.mlt hb'
    simp only [upd_ne (show b' ≠ V.H.length by omega)] at hm
    omega
theorem ptr_new (hS : SR V lo lop) {es : List VV} {r : List Value} {e : Nat} {p : Bool} : VR { V with m := upd V.m V.H.length V.P.length, H := V.H ++ [.row 0 es e true], P := V.P ++ [.row r e p] } (.ptr V.H.length 0 0 0) (.pointer (some ⟨V.P.length, 0, none⟩)) := by
  refine .ptr _ _ _ _ _ (by simp) (fun g' es e w _ => Nat.zero_le _) (fun es' e' w' h => ?_) fun a0 ha => ?_
  · simp only [upd_same, Nat.zero_mul]
  · cases ha
    refine ⟨hS.bas, by simp, fun b' g' es' e' w' hb hne hm => ?_⟩
    have hb' : (V.H ++ [VBlk.row 0 es e true])[b']? = some (.row g' es' e' w') := hb
    have hlt : b' < V.H.length := by
      have := (List.getElem?_eq_some_iff.1 hb').1
      simp at this
      omega
    rw [List.getElem?_append_left hlt] at hb'
    have h2 := hS.mlt hb'
    simp only [upd_ne (show b' ≠ V.H.length by omega)] at hm
    omega
theorem append_sound (hS : SR V lo lop) {x v : VV} {u : Value} {size bytes : Nat} {nw : List VV} {pn : List Value} {H' : VHeap} (hx : VR V x u) (hn : ∀ x ∈ nw, (vcells x).length = size) (hsc : (nw.flatMap vcells).all vscal = true) (hl : VL V (nw.flatMap vcells) pn) (h : vappend lo size bytes x nw V.H = some (v, H')) :
    OpOk lo lop V (pappend lop size bytes u nw.length pn V.P) v H' := by
  unfold vappend at h
  split at h
  case isFalse => cases h
  rename_i hbs
  have hpl : pn.length = nw.length * size := by rw [hl.length, flatv_len hn]
  unfold pappend
  rw [if_pos ⟨hbs.1, hbs.2, hl.scal hsc, hpl⟩]
  split at h
  · cases hx with
    | tree es k b o c r e p hF hb ho hc he hk hl => exact hk.elim
    | tnil =>
      simp only [and_self, if_true]
      split at h
      · rename_i h0
        cases h
        rw [if_pos h0]
        exact OpOk.same hS (.tnil _ (.inr rfl))
      · rename_i h0
        split at h
        case isFalse => cases h
        rename_i h1
        cases h
        rw [if_neg h0, if_pos h1]
        exact (OpOk.of (alloc_sound hS (es := nw) (r := pn) (e := size) true hn hl) (ref_new hS) :)
  · rename_i es e
    split at h
    case isFalse => cases h
    rename_i hes
    subst hes
    cases hx with
    | tnil k hk => rcases hk with hk | hk <;> cases hk
    | tree es k b o c r e' p hF hb ho hc he hk hl' =>
      obtain ⟨h1, h2, h3⟩ := hk
      subst h1 h2 h3
      simp only [hb]
      rw [if_pos ⟨trivial, ho⟩]
      split at h
      · rename_i h0
        cases h
        rw [if_pos (by omega), if_pos h0]
        exact OpOk.same hS (.tree es _ b o _ r e false hF hb ho hc he ⟨rfl, rfl, rfl⟩ hl')
      · rename_i h0
        split at h
        case isFalse => cases h
        rename_i hsz
        cases h
        rw [if_neg (by omega), if_pos hsz]
        simp only [Bool.false_eq_true, if_false]
        have hall : ∀ x ∈ es ++ nw, (vcells x).length = e := fun x hx => by
          rcases List.mem_append.1 hx with h | h
          · exact he x h
          · exact hn x h
        exact (OpOk.of (alloc_sound hS (es := es ++ nw) (r := (r.drop o).take (es.length * e) ++ pn) (e := e) true hall (by rw [List.flatMap_append]; exact hl'.append hl)) (ref_new hS) :)
  · rename_i b g o n c
    split at h
    case h_2 => cases h
    rename_i es e hr
    rw [vrow_some] at hr
    split at h
    case isFalse => cases h
    rename_i hc
    obtain ⟨rfl, hlo, hon⟩ := hc
    obtain ⟨r, p, h1, h2, h3⟩ := hS.row b g es e true hr
    have hrl := h3.length
    rw [flatv_len h2] at hrl
    have hlb := (hS.wr b g es e hr).2 hlo
    cases hx with
    | ref b g o n c a n' c' hlt hg ha hq =>
      obtain ⟨rfl, rfl, rfl⟩ := ha _ _ _ hr
      have hm : (o + n') * e ≤ es.length * e := Nat.mul_le_mul_right _ hon
      rw [Nat.add_mul] at hm
      simp only [h1]
      rw [if_pos ⟨trivial, by omega⟩]
      split at h
      · rename_i hnc
        rw [if_pos hnc]
        split at h
        · rename_i h0
          cases h
          rw [if_pos h0]
          exact OpOk.same hS (.ref _ _ _ _ _ _ _ _ hlt hg ha hq)
        · rename_i h0
          split at h
          case isFalse => cases h
          rename_i hfit
          cases h
          rw [if_neg h0]
          have hm2 : (o + n' + nw.length) * e ≤ es.length * e := Nat.mul_le_mul_right _ hfit
          rw [Nat.add_mul, Nat.add_mul] at hm2
          have hall : ∀ x ∈ vsplice es (o + n') nw, (vcells x).length = e := fun x hx => by
            rcases vsplice_mem hx with h | h
            · exact h2 x h
            · exact hn x h
          have hvl : VL V ((vsplice es (o + n') nw).flatMap vcells) (splice r (o * e + n' * e) pn) := by
            rw [← flatv_splice h2 hn, Nat.add_mul]
            exact h3.splice hl _
          obtain ⟨g1, g2⟩ := write_sound hS hr hlo hall hvl h1
          refine ⟨.slice (some ⟨V.m b, o * e, none⟩) (n' + nw.length) c', { V with H := V.H.set b (.row g (vsplice es (o + n') nw) e true), P := V.P.set (V.m b) (.row (splice r (o * e + n' * e) pn) e p) }, ?_, rfl, g1, g2, ?_⟩
          · unfold Heap.write
            simp only [h1]
            rw [if_pos ⟨hlb, by omega, hl.scal hsc⟩]
            rfl
          · refine .ref _ _ _ _ _ _ _ _ (by simpa using hlt) (fun g' es' e' w' hr' => ?_) (fun es' e' w' hr' => ?_) fun a0 h => by cases h; exact g2.toUp.hq (hq _ rfl)
            · rcases set_row hlt hr' with ⟨_, h⟩ | ⟨h, _⟩
              · cases h; exact Nat.le_refl _
              · exact absurd rfl h
            · rcases set_row hlt hr' with ⟨_, h⟩ | ⟨h, _⟩
              · cases h; exact ⟨rfl, rfl, rfl⟩
              · exact absurd rfl h
      · rename_i hnc
        split at h
        case isFalse => cases h
        rename_i hsz
        cases h
        rw [if_neg hnc, if_pos hsz]
        have hall : ∀ x ∈ (es.drop o).take n' ++ nw, (vcells x).length = e := fun x hx => by
          rcases List.mem_append.1 hx with h | h
          · exact h2 x (List.mem_of_mem_drop (List.mem_of_mem_take h))
          · exact hn x h
        have hvl : VL V (((es.drop o).take n' ++ nw).flatMap vcells) ((r.drop (o * e)).take (n' * e) ++ pn) := by
          rw [List.flatMap_append]
          refine VL.append ?_ hl
          have h4 := (h3.drop (o * e)).take (n' * e)
          rw [flatv_drop h2, flatv_take (fun x hx => h2 x (List.mem_of_mem_drop hx))] at h4
          exact h4
        have fin : ∀ P1 : Heap, P1.length = V.P.length → (∀ q, q ≠ V.m b → P1[q]? = V.P[q]?) →
            OpOk lo lop V (some (.slice (some ⟨V.P.length, 0, none⟩) (n' + nw.length) (n' + nw.length), P1 ++ [.row ((r.drop (o * e)).take (n' * e) ++ pn) e true])) (.ref b (g + 1) 0 (n' + nw.length) (n' + nw.length)) (V.H.set b (.row (g + 1) ((es.drop o).take n' ++ nw) e true)) := by
          intro P1 hP hk
          refine (OpOk.of (move_sound hS hr hlo hall hvl hP hk true) ?_ :)
          refine .ref _ _ _ _ _ _ _ _ (by simpa using hlt) (fun g' es' e' w' hr' => ?_) (fun es' e' w' hr' => ?_) fun a0 h => ?_
          · rcases set_row hlt hr' with ⟨_, h⟩ | ⟨h, _⟩
            · cases h; exact Nat.le_refl _
            · exact absurd rfl h
          · rcases set_row hlt hr' with ⟨_, h⟩ | ⟨h, _⟩
            · cases h; exact ⟨by simp only [upd_same, Nat.zero_mul], rfl, rfl⟩
            · exact absurd rfl h
          · cases h
            refine ⟨hS.bas, by simp [hP], fun b' g' es' e' w' hb hne hm => ?_⟩
            rcases set_row hlt hb with ⟨h, _⟩ | ⟨_, h⟩
            · exact hne h
            · simp only [upd_ne hne] at hm
              have := hS.mlt h
              omega
        cases p with
        | true =>
          simp only [if_true, hlb]
          exact fin (V.P.set (V.m b) .dead) (by simp) fun q hq => List.getElem?_set_ne (Ne.symm hq)
        | false =>
          simp only [Bool.false_eq_true, if_false]
          exact fin V.P rfl fun _ _ => rfl
  · cases h
theorem store_sound (hS : SR V lo lop) {p v : VV} {u w : Value} {size : Nat} {H' : VHeap} (hp : VR V p u) (hv : VR V v w) (h : vstore lo size p v V.H = some H') : OpOk lo lop V (storeV lop size u w V.P) vundef H' := by
  unfold vstore at h
  split at h
  case h_2 => cases h
  rename_i b g j o
  split at h
  case h_2 => cases h
  rename_i es e hr
  rw [vrow_some] at hr
  split at h
  case h_2 => cases h
  rename_i x hx
  split at h
  case isFalse => cases h
  rename_i hc
  obtain ⟨hsz, hlo, hsc⟩ := hc
  obtain ⟨r, q, h1, h2, h3⟩ := hS.row b g es e true hr
  have hrl := h3.length
  rw [flatv_len h2] at hrl
  have hlb := (hS.wr b g es e hr).2 hlo
  have hj := (List.getElem?_eq_some_iff.1 hx).1
  have hxe := h2 x (List.mem_of_getElem? hx)
  have hm : (j + 1) * e ≤ es.length * e := Nat.mul_le_mul_right _ hj
  rw [Nat.succ_mul] at hm
  have hcl := hv.cells (notAny hsc)
  have hwl : (pcells w).length = size := by rw [hcl.length, hsz]
  cases hp with
  | ptr b g j off a hlt hg ha hq =>
    have := ha _ _ _ hr
    subst this
    have fin : ∀ y : VV, (vcells y).length = e → o + size ≤ e → vcells y = vsplice (vcells x) o (vcells v) → H' = V.H.set b (.row g (es.set j y) e true) → OpOk lo lop V (storeV lop size (.pointer (some ⟨V.m b, j * e + o, none⟩)) w V.P) vundef H' := by
      intro y hy ho hye hH
      subst hH
      have hall : ∀ z ∈ es.set j y, (vcells z).length = e := fun z hz => by
        rcases List.mem_or_eq_of_mem_set hz with h | h
        · exact h2 z h
        · subst h; exact hy
      have hvl : VL V ((es.set j y).flatMap vcells) (splice r (j * e + o) (pcells w)) := by
        have e1 : (es.set j y).flatMap vcells = vsplice (es.flatMap vcells) (j * e + o) (vcells v) := by
          rw [← vsplice_one hj, ← flatv_splice h2 (new := [y]) (fun z hz => by rw [List.mem_singleton] at hz; subst hz; exact hy)]
          simp only [List.flatMap_cons, List.flatMap_nil, List.append_nil]
          rw [hye]
          have hx2 := flatv_at h2 hx
          unfold vsplice
          have t1 : (es.flatMap vcells).take (j * e + o) = (es.flatMap vcells).take (j * e) ++ (vcells x).take o := by
            rw [List.take_add, ← hx2, List.take_take, Nat.min_eq_left (by omega)]
          have t2 : (es.flatMap vcells).drop (j * e + o + (vcells v).length) = (vcells x).drop (o + (vcells v).length) ++ (es.flatMap vcells).drop (j * e + e) := by
            have t0 : (es.flatMap vcells).drop (j * e + e) = ((es.flatMap vcells).drop (j * e + (o + (vcells v).length))).drop (e - (o + (vcells v).length)) := by
              rw [List.drop_drop]
              congr 1
              omega
            rw [← hx2, List.drop_take, List.drop_drop, t0, List.take_append_drop, Nat.add_assoc]
          rw [t1, t2]
          have t3 : (List.take o (vcells x) ++ vcells v ++ List.drop (o + (vcells v).length) (vcells x)).length = e := by
            simp; omega
          rw [t3]
          simp only [List.append_assoc]
        rw [e1]
        exact h3.splice hcl _
      obtain ⟨g1, g2⟩ := write_sound hS hr hlo hall hvl h1
      refine ⟨undef, { V with H := V.H.set b (.row g (es.set j y) e true), P := V.P.set (V.m b) (.row (splice r (j * e + o) (pcells w)) e q) }, ?_, rfl, g1, g2, .tup [] [] .nil⟩
      unfold storeV
      simp only [hwl, if_true]
      unfold Heap.write
      simp only [h1]
      rw [if_pos ⟨hlb, by omega, hcl.scal hsc⟩]
      rfl
    split at h
    · rename_i ho
      obtain ⟨rfl, rfl⟩ := ho
      cases h
      refine fin v hsz (by omega) ?_ rfl
      unfold vsplice
      rw [Nat.zero_add, List.take_zero, List.nil_append, List.drop_of_length_le (by omega), List.append_nil]
    · split at h
      case isFalse => cases h
      rename_i ho
      cases h
      have hsp : (vsplice (vcells x) o (vcells v)).length = e := by rw [vsplice_len (by omega)]; exact hxe
      exact fin (.agg (vsplice (vcells x) o (vcells v))) hsp (by omega) rfl rfl
theorem zero_len {z : List Value} (hz : (z.map inj1).all vscal = true) : (vcells (elemOf (z.map inj1))).length = z.length := by
  rw [vcells_elemOf hz, List.length_map]
theorem zcells_rep {z : List Value} (hz : (z.map inj1).all vscal = true) : ∀ n, VL V ((List.replicate n (elemOf (z.map inj1))).flatMap vcells) (zcells n z) := by
  intro n
  have hsc : z.all scal = true := (VL.zero (V := V) z).scal hz
  have hrep : zcells n z = (List.replicate n ()).flatMap fun _ => z := by
    rcases Nat.eq_zero_or_pos z.length with h0 | hpos
    · have : z = [] := List.length_eq_zero_iff.1 h0
      subst this
      simp [zcells]
    · exact zcells_flat (enc := fun (_ : Unit) => z) (esz := z.length) (x := ()) ⟨fun _ => rfl, fun _ => hsc, hpos⟩
  rw [hrep]
  clear hrep
  induction n with
  | zero => exact .nil
  | succ n ih =>
    rw [List.replicate_succ, List.replicate_succ, List.flatMap_cons, List.flatMap_cons, vcells_elemOf hz]
    exact (VL.zero z).append ih
theorem make_sound (hS : SR V lo lop) {z : List Value} {bytes : Nat} {l c v : VV} {u w : Value} {H' : VHeap} (hz : (z.map inj1).all vscal = true) (hl : VR V l u) (hc : VR V c w) (h : vmake z bytes l c V.H = some (v, H')) : OpOk lo lop V (makeV z bytes u w V.P) v H' := by
  unfold vmake at h
  split at h
  case h_2 => cases h
  obtain ⟨rfl, _⟩ := vev_sc hl rfl
  obtain ⟨rfl, _⟩ := vev_sc hc rfl
  split at h
  case isFalse => cases h
  rename_i hcond
  cases h
  unfold makeV
  simp only [if_pos hcond]
  exact (OpOk.of (alloc_sound hS (e := z.length) false (fun x hx => by rw [List.eq_of_mem_replicate hx]; exact zero_len hz) (zcells_rep hz _)) (ref_new hS) :)
theorem new_sound (hS : SR V lo lop) {z : List Value} (hz : (z.map inj1).all vscal = true) : OpOk lo lop V (some (.pointer (some ⟨V.P.length, 0, none⟩), V.P ++ [.row z z.length false])) (.ptr V.H.length 0 0 0) (V.H ++ [.row 0 [elemOf (z.map inj1)] z.length true]) := by
  exact (OpOk.of (alloc_sound hS (es := [elemOf (z.map inj1)]) (r := z) (e := z.length) false (fun x hx => by rw [List.mem_singleton] at hx; subst hx; exact zero_len hz) (by simp only [List.flatMap_cons, List.flatMap_nil, List.append_nil, vcells_elemOf hz]; exact VL.zero z)) (ptr_new hS) :)
theorem box_sound (hS : SR V lo lop) {x v : VV} {u : Value} {H' : VHeap} {bf : Bool} (hx : VR V x u) (hs : (vcells x).all vscal = true) (h : (if bf = true then some (VV.tptr x 0, V.H) else some (VV.ptr V.H.length 0 0 0, V.H ++ [VBlk.row 0 [x] (vcells x).length true])) = some (v, H')) :
    OpOk lo lop V (if (pcells u).all scal then some (.pointer (some ⟨V.P.length, 0, none⟩), V.P ++ [.row (pcells u) (pcells u).length false]) else none) v H' := by
  have hc := hx.cells (notAny hs)
  rw [if_pos (hc.scal hs)]
  split at h
  · cases h
    have g := closed_sound hS (.row (pcells u) (pcells u).length false)
    refine (OpOk.of g ?_ :)
    have hm := hc.mono g.2.toUp
    refine .tptr x 0 V.P.length 0 (pcells u) (pcells u).length false (.inr rfl) (by simp) (by rw [hc.length]; omega) ?_
    rw [List.drop_zero, List.take_of_length_le (by rw [hc.length]; exact Nat.le_refl _)]
    exact hm
  · cases h
    rw [hc.length]
    exact (OpOk.of (alloc_sound hS (es := [x]) (r := pcells u) (e := (vcells x).length) false (fun y hy => by rw [List.mem_singleton] at hy; subst hy; rfl) (by simpa using hc)) (ptr_new hS) :)
theorem take_set {α : Type} {l : List α} {i : Nat} {x : α} (h : i < l.length) : l.set i x = l.take i ++ x :: l.drop (i + 1) := by
  rw [List.set_eq_take_append_cons_drop, if_pos h]
inductive PRel (V : View) : List (Nat × VV) → List (Nat × Value) → Prop
  | nil : PRel V [] []
  | cons {i : Nat} {x : VV} {v : Value} {xs : List (Nat × VV)} {vs : List (Nat × Value)} (h : VR V x v) (hs : PRel V xs vs) : PRel V ((i, x) :: xs) ((i, v) :: vs)
theorem litFill_sound {e n : Nat} : ∀ {parts : List (Nat × VV)} {pparts : List (Nat × Value)} {es es' : List VV} {r : List Value}, es.length = n → (∀ x ∈ es, (vcells x).length = e) → VL V (es.flatMap vcells) r →
    PRel V parts pparts → litFill e es parts = some es' → es'.length = n ∧ (∀ x ∈ es', (vcells x).length = e) ∧ ∃ r', pfill ((List.range n).map fun i => (i * e, e)) r pparts = some r' ∧ VL V (es'.flatMap vcells) r'
  | [], _, es, es', r, hn, he, hl, .nil, h => by
    cases h
    exact ⟨hn, he, r, rfl, hl⟩
  | (i, v) :: parts, (_, w) :: pparts, es, es', r, hn, he, hl, .cons hv hps, h => by
    unfold litFill at h
    split at h
    case isFalse => cases h
    rename_i hc
    obtain ⟨hi, hve, hsc⟩ := hc
    have hcl := hv.cells (notAny hsc)
    have hwl : (pcells w).length = e := by rw [hcl.length, hve]
    have hrl := hl.length
    rw [flatv_len he] at hrl
    have hm : (i + 1) * e ≤ es.length * e := Nat.mul_le_mul_right _ hi
    rw [Nat.succ_mul] at hm
    have hall : ∀ x ∈ es.set i v, (vcells x).length = e := fun x hx => by
      rcases List.mem_or_eq_of_mem_set hx with h | h
      · exact he x h
      · subst h; exact hve
    have hvl : VL V ((es.set i v).flatMap vcells) (r.take (i * e) ++ pcells w ++ r.drop (i * e + e)) := by
      have h1 := hl.splice hcl (i * e)
      have h2 := flatv_splice he (new := [v]) (fun z hz => by rw [List.mem_singleton] at hz; subst hz; exact hve) i
      simp only [List.flatMap_cons, List.flatMap_nil, List.append_nil] at h2
      rw [h2, vsplice_one hi] at h1
      unfold splice at h1
      rw [hwl] at h1
      exact h1
    obtain ⟨g1, g2, r', g3, g4⟩ := litFill_sound (n := n) (by rw [List.length_set]; exact hn) hall hvl hps h
    refine ⟨g1, g2, r', ?_, g4⟩
    unfold pfill
    have hr : ((List.range n).map fun i => (i * e, e))[i]? = some (i * e, e) := by simp [List.getElem?_range (show i < n by omega)]
    simp only [hr]
    rw [if_pos ⟨hwl, by omega⟩]
    exact g3
theorem parts_rel (hE : ER V ρ ρp) : ∀ parts : List (Nat × Operand), PRel V (parts.map fun (i, x) => (i, vev ρ x)) (parts.map fun (i, x) => (i, ev ρp x))
  | [] => .nil
  | (i, x) :: parts => .cons (hE.ev x) (parts_rel hE parts)
theorem litFill_scal {e : Nat} : ∀ {parts : List (Nat × VV)} {es es' : List VV}, (es.all fun x => (vcells x).all vscal) = true → litFill e es parts = some es' → (es'.all fun x => (vcells x).all vscal) = true
  | [], es, es', h, hf => by cases hf; exact h
  | (i, v) :: parts, es, es', h, hf => by
    unfold litFill at hf
    split at hf
    case isFalse => cases hf
    rename_i hc
    refine litFill_scal ?_ hf
    rw [List.all_eq_true] at h ⊢
    intro x hx
    rcases List.mem_or_eq_of_mem_set hx with h1 | h1
    · exact h x h1
    · subst h1; exact hc.2.2
theorem lit_sound (hS : SR V lo lop) {lr : Bool} {z : List Value} {n : Nat} {parts : List (Nat × VV)} {pparts : List (Nat × Value)} {v : VV} {H' : VHeap} (hp : PRel V parts pparts) (h : vlit lr z n parts V.H = some (v, H')) : OpOk lo lop V (litV z n pparts V.P) v H' := by
  unfold vlit at h
  split at h
  case h_2 => cases h
  rename_i es hes
  split at h
  case isFalse => cases h
  rename_i hz
  obtain ⟨g1, g2, r', g3, g4⟩ := litFill_sound (V := V) (n := n) (by simp) (fun x hx => by rw [List.eq_of_mem_replicate hx]; exact zero_len hz) (zcells_rep hz n) hp hes
  have hsc := litFill_scal (by
    rw [List.all_eq_true]
    intro x hx
    rw [List.eq_of_mem_replicate hx, vcells_elemOf hz]
    exact hz) hes
  unfold litV
  simp only [g3]
  rw [if_pos (g4.scal (all_flat hsc))]
  split at h
  · cases h
    exact (OpOk.of (alloc_sound hS (e := z.length) false g2 g4) (ref_new hS) :)
  · cases h
    have k := closed_sound hS (.row r' z.length false)
    refine (OpOk.of k ?_ :)
    have hm := g4.mono k.2.toUp
    have hrl := g4.length
    rw [flatv_len g2] at hrl
    subst g1
    refine .tree es _ V.P.length 0 es.length r' z.length false (.inr rfl) (by simp) (by omega) (Nat.le_refl _) g2 ⟨rfl, rfl, rfl⟩ ?_
    rw [List.drop_zero, List.take_of_length_le (by omega)]
    exact hm
theorem put_sound (hS : SR V lo lop) {b g e o : Nat} {es nw : List VV} {pn : List Value} (hr : V.H[b]? = some (.row g es e true)) (hlo : lo ≤ b) (hfit : o + nw.length ≤ es.length) (hn : ∀ x ∈ nw, (vcells x).length = e) (hsc : (nw.flatMap vcells).all vscal = true) (hl : VL V (nw.flatMap vcells) pn) :
    ∃ V', V.P.write lop (V.m b) (o * e) pn = some V'.P ∧ V'.H = V.H.set b (.row g (vsplice es o nw) e true) ∧ SR V' lo lop ∧ Eff lo V V' := by
  obtain ⟨r, q, h1, h2, h3⟩ := hS.row b g es e true hr
  have hrl := h3.length
  rw [flatv_len h2] at hrl
  have hlb := (hS.wr b g es e hr).2 hlo
  have hpl := hl.length
  rw [flatv_len hn] at hpl
  have hm : (o + nw.length) * e ≤ es.length * e := Nat.mul_le_mul_right _ hfit
  rw [Nat.add_mul] at hm
  have hall : ∀ x ∈ vsplice es o nw, (vcells x).length = e := fun x hx => by
    rcases vsplice_mem hx with h | h
    · exact h2 x h
    · exact hn x h
  have hvl : VL V ((vsplice es o nw).flatMap vcells) (splice r (o * e) pn) := by
    rw [← flatv_splice h2 hn]
    exact h3.splice hl _
  obtain ⟨g1, g2⟩ := write_sound hS hr hlo hall hvl h1
  refine ⟨{ V with H := V.H.set b (.row g (vsplice es o nw) e true), P := V.P.set (V.m b) (.row (splice r (o * e) pn) e q) }, ?_, rfl, g1, g2⟩
  unfold Heap.write
  simp only [h1]
  rw [if_pos ⟨hlb, by omega, hl.scal hsc⟩]
theorem copy_sound (hS : SR V lo lop) {x y v : VV} {u w : Value} {size : Nat} {H' : VHeap} (hx : VR V x u) (hy : VR V y w) (h : vcopy lo size x y V.H = some (v, H')) : OpOk lo lop V (copyV lop size u w V.P) v H' := by
  unfold vcopy at h
  split at h
  · rename_i new hs
    obtain ⟨h1, _⟩ := source_sound hS hy hs
    cases h
    cases hx with
    | tree es k b o c r e p hF hb ho hc he hk hl => exact hk.elim
    | tnil =>
      unfold copyV
      simp only [h1]
      exact OpOk.same hS (.sc _ rfl)
  · rename_i b g o d c new hs
    obtain ⟨h1, h2, h3, h4⟩ := source_sound hS hy hs
    split at h
    case h_2 => cases h
    rename_i es e hr
    rw [vrow_some] at hr
    split at h
    case isFalse => cases h
    rename_i hc
    obtain ⟨rfl, hlo, hfit⟩ := hc
    cases h
    cases hx with
    | ref b g o n c a n' c' hlt hg ha hq =>
      obtain ⟨rfl, rfl, rfl⟩ := ha _ _ _ hr
      have hmin : (new.take n').length = Nat.min new.length n' := by rw [List.length_take]; exact Nat.min_comm _ _
      obtain ⟨pn, h5, h6⟩ := h4 (Nat.min new.length n') (Nat.min_le_left _ _)
      have ht : new.take (Nat.min new.length n') = new.take n' := by
        rw [← hmin, List.length_take, ← List.take_take, List.take_length]
      rw [ht] at h6
      have hmem : ∀ x ∈ new.take n', (vcells x).length = e := fun x hx => h2 x (List.mem_of_mem_take hx)
      have hsc : ((new.take n').flatMap vcells).all vscal = true := by
        rw [List.all_eq_true] at h3 ⊢
        intro x hx
        obtain ⟨y, hy, hxy⟩ := List.mem_flatMap.1 hx
        exact h3 x (List.mem_flatMap.2 ⟨y, List.mem_of_mem_take hy, hxy⟩)
      obtain ⟨V', k1, k2, k3, k4⟩ := put_sound hS hr hlo hfit hmem hsc h6
      refine ⟨.int .i64 (Nat.min new.length n'), V', ?_, k2, k3, k4, ?_⟩
      · unfold copyV
        simp only [h1, h5, k1]
        rfl
      · rw [hmin]
        exact .sc _ rfl
  · cases h
theorem clear_sound (hS : SR V lo lop) {x : VV} {u : Value} {z : List Value} {H' : VHeap} (hx : VR V x u) (h : vclear lo z x V.H = some H') : OpOk lo lop V (clearV lop z u V.P) vundef H' := by
  unfold vclear at h
  split at h
  case h_2 => cases h
  rename_i b g o n c
  split at h
  case h_2 => cases h
  rename_i es e hr
  rw [vrow_some] at hr
  cases hx with
  | ref b g o n c a n' c' hlt hg ha hq =>
    obtain ⟨rfl, rfl, rfl⟩ := ha _ _ _ hr
    unfold clearV
    simp only
    split at h
    · rename_i h0
      cases h
      rw [if_pos h0]
      exact OpOk.same hS (.tup [] [] .nil)
    · rename_i h0
      rw [if_neg h0]
      split at h
      case isFalse => cases h
      rename_i hc
      obtain ⟨rfl, hlo, hfit, hz⟩ := hc
      cases h
      have hmem : ∀ x ∈ List.replicate n' (elemOf (z.map inj1)), (vcells x).length = z.length := fun x hx => by rw [List.eq_of_mem_replicate hx]; exact zero_len hz
      obtain ⟨V', k1, k2, k3, k4⟩ := put_sound hS hr hlo (nw := List.replicate n' (elemOf (z.map inj1))) (by simpa using hfit) hmem (all_flat (by
        rw [List.all_eq_true]
        intro x hx
        rw [List.eq_of_mem_replicate hx, vcells_elemOf hz]
        exact hz)) (zcells_rep hz n')
      refine ⟨undef, V', ?_, k2, k3, k4, .tup [] [] .nil⟩
      rw [k1]
      rfl
end
end Go.PM
/- Each operation of the logic, one by one. -/
namespace Go.PM
section
variable {V : View} {lo lop : Nat} {ρ : VEnv} {ρp : Env}
theorem isnil_sound {x v : VV} {u : Value} {neg : Bool} (hx : VR V x u) (h : visnil neg x V.H = some v) : ∃ w, isnilV neg u = some w ∧ VR V v w := by
  unfold visnil at h
  split at h
  · cases h
    cases hx with
    | tree es k b o c r e p hF hb ho hc he hk hl => exact hk.elim
    | tnil => exact ⟨_, rfl, .sc _ rfl⟩
  · cases h
    cases hx with
    | tnil k hk => rcases hk with hk | hk <;> cases hk
    | tree => exact ⟨_, rfl, .sc _ rfl⟩
  · cases h
    cases hx with
    | tree => exact ⟨_, rfl, .sc _ rfl⟩
  · obtain ⟨⟨es, e, w⟩, hr, rfl⟩ := map_some' h
    rw [vrow_some] at hr
    cases hx with
    | ref b g o n c a n' c' hlt hg ha hq =>
      obtain ⟨rfl, rfl, rfl⟩ := ha _ _ _ hr
      exact ⟨_, rfl, .sc _ rfl⟩
  · cases h
theorem len_sound {x v : VV} {u : Value} (hx : VR V x u) (h : vlen x V.H = some v) : ∃ w, lenV u = some w ∧ VR V v w := by
  unfold vlen at h
  split at h
  · cases h
    cases hx <;> exact ⟨_, rfl, .sc _ rfl⟩
  · obtain ⟨⟨es, e, w⟩, hr, rfl⟩ := map_some' h
    rw [vrow_some] at hr
    cases hx with
    | ref b g o n c a n' c' hlt hg ha hq =>
      obtain ⟨rfl, rfl, rfl⟩ := ha _ _ _ hr
      exact ⟨_, rfl, .sc _ rfl⟩
  · cases h
theorem faddr_sound {x v : VV} {u : Value} {off : Nat} (hx : VR V x u) (h : vfaddr off x V.H = some v) : ∃ w, faddrV off u = some w ∧ VR V v w := by
  unfold vfaddr at h
  split at h
  · cases h
    cases hx with
    | tptr x off b o r e p hF hb ho hl => exact ⟨_, rfl, by rw [Nat.add_assoc]; exact .tptr _ _ b o r e p hF hb ho hl⟩
  · obtain ⟨⟨es, e, w⟩, hr, rfl⟩ := map_some' h
    rw [vrow_some] at hr
    cases hx with
    | ptr b g j off a hlt hg ha hq =>
      have := ha _ _ _ hr
      subst this
      refine ⟨_, rfl, .ptr _ _ _ _ _ hlt hg (fun es' e' w' hr' => ?_) fun a0 h => by cases h; have := hq _ rfl; exact this⟩
      rw [hr] at hr'
      cases hr'
      rw [Nat.add_assoc]
  · cases h
theorem chk_sound {x v : VV} {u : Value} (hx : VR V x u) (h : vchk x V.H = some v) : ∃ w, chkV u = some w ∧ VR V v w := by
  unfold vchk at h
  split at h
  · cases h
    cases hx with
    | tptr x off b o r e p hF hb ho hl => exact ⟨_, rfl, .tptr _ _ b o r e p hF hb ho hl⟩
  · obtain ⟨⟨es, e, w⟩, hr, rfl⟩ := map_some' h
    rw [vrow_some] at hr
    cases hx with
    | ptr b g j off a hlt hg ha hq =>
      have := ha _ _ _ hr
      subst this
      exact ⟨_, rfl, .ptr _ _ _ _ _ hlt hg ha hq⟩
  · cases h
theorem pick_sound {c a b v : VV} {u x y : Value} (hc : VR V c u) (ha : VR V a x) (hb : VR V b y) (h : vpick c a b = some v) : ∃ t, u = .bool t ∧ VR V v (if t then x else y) := by
  unfold vpick at h
  split at h
  · rename_i t
    cases h
    obtain ⟨rfl, _⟩ := vev_sc hc rfl
    refine ⟨t, rfl, ?_⟩
    cases t
    · exact hb
    · exact ha
  · cases h
theorem ext_sound {x v : VV} {u : Value} {i : Nat} (hx : VR V x u) (h : vext i x = some v) : ∃ w, extV i u = some w ∧ VR V v w := by
  unfold vext at h
  split at h
  · cases hx with
    | tup cs ps hl =>
      obtain ⟨w, hw, hv⟩ := hl.get h
      exact ⟨w, by simpa [extV] using hw, hv⟩
  · cases h
theorem fld_sound {x v : VV} {u : Value} {agg : Bool} {off size : Nat} (hx : VR V x u) (h : vfld agg off size x = some v) : ∃ w, fldV agg off size u = some w ∧ VR V v w := by
  unfold vfld at h
  split at h
  · rename_i cs
    cases hx with
    | agg cs ps hl =>
      split at h
      · rename_i ha
        split at h
        · rename_i hs
          cases h
          refine ⟨.agg ((ps.drop off).take size).toArray, ?_, .agg _ _ ((hl.drop off).take size)⟩
          unfold fldV
          simp only [ha, if_true]
          rw [if_pos (by simpa [hl.length] using hs)]
          congr 2
          apply Array.ext'
          simp [List.extract_eq_take_drop]
        · cases h
      · rename_i ha
        obtain ⟨w, hw, hv⟩ := hl.get h
        refine ⟨w, ?_, hv⟩
        unfold fldV
        simp only [ha]
        simpa using hw
  · cases h
theorem eqCells_sound {ks : List CK} : ∀ {xs ys : List VV} {us ws : List Value} {t : Bool}, VL V xs us → VL V ys ws → veqCells ks xs ys = some t → eqCells ks us ws = some t := by
  induction ks with
  | nil =>
    intro xs ys us ws t h1 h2 h
    cases h1 with
    | nil => cases h2 with
      | nil => exact h
      | cons => simp [veqCells] at h
    | cons => simp [veqCells] at h
  | cons k ks ih =>
    intro xs ys us ws t h1 h2 h
    cases h1 with
    | nil => simp [veqCells] at h
    | cons x u xs us hx hxs => cases h2 with
      | nil => cases x <;> simp [veqCells] at h
      | cons y w ys ws hy hys =>
        cases hx with
        | sc _ _ => cases hy with
          | sc _ _ =>
            simp only [veqCells] at h
            simp only [eqCells]
            split at h
            · rename_i h1
              rw [h1]
              exact ih hxs hys h
            · rename_i h1
              rw [h1]
              exact h
            · cases h
          | _ => simp [veqCells] at h
        | _ => simp [veqCells] at h
theorem fill_sound {places : List (Nat × Nat)} : ∀ {parts : List (Nat × VV)} {pparts : List (Nat × Value)} {cs cs' : List VV} {r : List Value}, VL V cs r → PRel V parts pparts → vfill places cs parts = some cs' →
    ∃ r', pfill places r pparts = some r' ∧ VL V cs' r'
  | [], _, cs, cs', r, hl, .nil, h => by cases h; exact ⟨r, rfl, hl⟩
  | (i, v) :: parts, (_, w) :: pparts, cs, cs', r, hl, .cons hv hps, h => by
    unfold vfill at h
    unfold pfill
    split at h
    · cases h
    · rename_i off size hpl
      simp only [hpl]
      split at h
      case isFalse => cases h
      rename_i hc
      have hcl := hv.cells (fun e => by subst e; cases hc.2.2)
      rw [if_pos ⟨by rw [hcl.length]; exact hc.1, by rw [hl.length]; exact hc.2.1⟩]
      exact fill_sound (((hl.take off).append hcl).append (hl.drop _)) hps h
theorem bytes_sound : ∀ {es : List VV} {r : List Value} {bs : List UInt8}, VL V (es.flatMap vcells) r → vbytes es = some bs → pbytes r = some bs
  | [], _, bs, .nil, h => h
  | x :: es, r, bs, hl, h => by
    unfold vbytes at h
    split at h
    · rename_i e; cases e
    · rename_i n r' e
      cases e
      obtain ⟨t, ht, rfl⟩ := map_some' h
      rw [List.flatMap_cons] at hl
      cases hl with
      | cons _ u _ us hu hus =>
        obtain ⟨rfl, _⟩ := vev_sc hu rfl
        unfold pbytes
        rw [bytes_sound hus ht]
        rfl
    · cases h
theorem lift {r : Option VV} {v : VV} {H' : VHeap} {s : Option (Value × Heap)} (h : r.map (·, V.H) = some (v, H')) (k : r = some v → OpOk lo lop V s v V.H) : OpOk lo lop V s v H' := by
  obtain ⟨a, ha, he⟩ := map_some' h
  cases he
  exact k ha
theorem vop_sound (hS : SR V lo lop) (hE : ER V ρ ρp) {fl : Fl} {o : POp} {v : VV} {H' : VHeap} {q : Bool} (h : vop fl lo o ρ V.H = some (v, H')) : OpOk lo lop V (oval lop q o ρp V.P) v H' := by
  cases o <;> simp only [vop] at h
  case mv x => cases h; rw [oval_mv]; exact OpOk.same hS (hE.ev x)
  case pick c a b =>
    refine lift h fun h => ?_
    obtain ⟨t, ht, hv⟩ := pick_sound (hE.ev c) (hE.ev a) (hE.ev b) h
    rw [oval_pick, ht]
    exact OpOk.same hS hv
  case bin op x y => rw [oval_bin]; exact lift h fun h => sc2_sound (f := pbin op) hS (fun _ _ _ => isSc_bin) (hE.ev x) (hE.ev y) h
  case eqb neg x y => rw [oval_eqb]; exact lift h fun h => sc2_sound (f := eqbV neg) hS (fun _ _ _ => isSc_eqb) (hE.ev x) (hE.ev y) h
  case isnil neg x =>
    rw [oval_isnil]
    refine lift h fun h => ?_
    obtain ⟨w, h1, h2⟩ := isnil_sound (hE.ev x) h
    exact OpOk.pure hS h1 h2
  case eqagg neg ks x y =>
    rw [oval_eqagg]
    refine lift h fun h => ?_
    unfold veqagg at h
    split at h
    case h_2 => cases h
    rename_i a b hx hy
    obtain ⟨t, ht, rfl⟩ := map_some' h
    have h1 := hE.ev x
    have h2 := hE.ev y
    rw [hx] at h1
    rw [hy] at h2
    generalize ev ρp x = u at h1 ⊢
    generalize ev ρp y = w at h2 ⊢
    cases h1 with
    | agg cs ps h1 => cases h2 with
      | agg cs' ps' h2 =>
        refine OpOk.pure hS (pv := .bool (t != neg)) ?_ (.sc _ rfl)
        unfold eqaggV
        simp only
        rw [eqCells_sound h1 h2 ht]
        rfl
  case un op x => rw [oval_un]; exact lift h fun h => sc1_sound (f := pun op) hS (fun _ _ => isSc_un) (hE.ev x) h
  case cvt k x => rw [oval_cvt]; exact lift h fun h => sc1_sound (f := cvtV k) hS (fun _ _ => isSc_cvt) (hE.ev x) h
  case cvs x =>
    have e : oval lop q (.cvs x) ρp V.P = (cvsV (ev ρp x)).map (·, V.P) := oval_pure rfl
    rw [e]; exact lift h fun h => sc1_sound (f := cvsV) hS (fun _ _ => isSc_cvs) (hE.ev x) h
  case ext x i =>
    rw [oval_ext]
    refine lift h fun h => ?_
    obtain ⟨w, h1, h2⟩ := ext_sound (hE.ev x) h
    exact OpOk.pure hS h1 h2
  case fld agg off size x =>
    rw [oval_fld]
    refine lift h fun h => ?_
    obtain ⟨w, h1, h2⟩ := fld_sound (hE.ev x) h
    exact OpOk.pure hS h1 h2
  case build zero places parts =>
    obtain ⟨cs, hcs, he⟩ := map_some' h
    cases he
    obtain ⟨r, h1, h2⟩ := fill_sound (VL.zero zero) (parts_rel hE parts) hcs
    rw [oval_build, h1]
    exact OpOk.same hS (.agg _ _ h2)
  case chk x =>
    rw [oval_chk]
    refine lift h fun h => ?_
    obtain ⟨w, h1, h2⟩ := chk_sound (hE.ev x) h
    exact OpOk.pure hS h1 h2
  case faddr off x =>
    rw [oval_faddr]
    refine lift h fun h => ?_
    obtain ⟨w, h1, h2⟩ := faddr_sound (hE.ev x) h
    exact OpOk.pure hS h1 h2
  case iaddr size x i =>
    rw [oval_iaddr]
    refine lift h fun h => ?_
    obtain ⟨w, h1, h2⟩ := iaddr_sound hS (hE.ev x) (hE.ev i) h
    exact OpOk.pure hS h1 h2
  case sidx x i =>
    have e : oval lop q (.sidx x i) ρp V.P = (sidxV (ev ρp x) (ev ρp i)).map (·, V.P) := oval_pure rfl
    rw [e]; exact lift h fun h => sc2_sound (f := sidxV) hS (fun _ _ _ => isSc_sidx) (hE.ev x) (hE.ev i) h
  case ssub x l h' =>
    refine lift h fun h => ?_
    unfold vssub at h
    split at h
    case h_2 => cases h
    rename_i s lv hv hx h1 h2
    split at h
    case h_2 => cases h
    rename_i a b hab
    cases h
    obtain ⟨e1, _⟩ := vev_sc (hE.ev x) hx
    have e : oval lop q (.ssub x l h') ρp V.P = some (.string (s.extract a b), V.P) := by
      rw [oval_pure rfl]
      simp only [ppure, e1]
      rw [num_sound hE h1, num_sound hE h2, hab]
      rfl
    rw [e]
    exact OpOk.same hS (.sc _ rfl)
  case mkfn f caps =>
    cases h
    rw [oval_mkfn]
    exact OpOk.same hS (.clo _ _ _ (hE.evs caps))
  case len x =>
    rw [oval_len]
    refine lift h fun h => ?_
    obtain ⟨w, h1, h2⟩ := len_sound (hE.ev x) h
    exact OpOk.pure hS h1 h2
  case slen x =>
    have e : oval lop q (.slen x) ρp V.P = (slenV (ev ρp x)).map (·, V.P) := oval_pure rfl
    rw [e]; exact lift h fun h => sc1_sound (f := slenV) hS (fun _ _ => isSc_slen) (hE.ev x) h
  case min x y => rw [oval_min]; exact lift h fun h => sc2_sound (f := minV) hS (fun _ _ _ => isSc_min) (hE.ev x) (hE.ev y) h
  case max x y => rw [oval_max]; exact lift h fun h => sc2_sound (f := maxV) hS (fun _ _ _ => isSc_max) (hE.ev x) (hE.ev y) h
  case load agg size p =>
    rw [oval_load]
    refine lift h fun h => ?_
    obtain ⟨w, h1, h2⟩ := load_sound hS (hE.ev p) h
    exact OpOk.pure hS h1 h2
  case sub size x l hh m =>
    rw [oval_sub]
    exact lift h fun h => sub_sound hS hE (hE.ev x) h
  case b2s x =>
    split at h
    · cases h
    rename_i y hne
    split at h
    case h_2 => cases h
    rename_i es hes
    obtain ⟨bs, hbs, he⟩ := map_some' h
    cases he
    obtain ⟨h1, h2, h3, h4⟩ := source_sound hS (hE.ev x) hes
    obtain ⟨pn, h5, h6⟩ := h4 es.length (Nat.le_refl _)
    rw [List.take_length] at h6
    have hb := bytes_sound h6 hbs
    have hx := hE.ev x
    have e : oval lop q (.b2s x) ρp V.P = some (.string ⟨bs.toArray⟩, V.P) := by
      apply oval_lift
      simp only [pop]
      generalize ev ρp x = u at *
      cases u <;> first | (exfalso; simp [plenOf] at h1; done) | skip
      case string s =>
        generalize vev ρ x = y at *
        cases hx with
        | any => simp [vsource] at hes
        | sc _ _ => exact absurd rfl (hne _)
      case slice a n c =>
        injection h1 with h1
        subst h1
        cases a with
        | none =>
          simp only [psource] at h5
          split at h5
          · cases h5
            cases hb
            rfl
          · cases h5
        | some a =>
          obtain ⟨b, o, sp⟩ := a
          cases sp with
          | some s => simp [psource] at h5
          | none =>
            simp only [psource, Nat.mul_one] at h5
            simp only [h5, hb]
            rfl
    rw [e]
    exact OpOk.same hS (.sc _ rfl)
  case new zero =>
    split at h
    case isFalse => cases h
    rename_i hz
    cases h
    rw [oval_new]
    exact new_sound hS hz
  case box x =>
    split at h
    case isFalse => cases h
    rename_i hs
    rw [oval_box]
    exact box_sound hS (hE.ev x) hs h
  case make zero bytes l c =>
    split at h
    case isFalse => cases h
    rename_i hz
    rw [oval_make]
    exact make_sound hS hz (hE.ev l) (hE.ev c) h
  case lit zero n parts =>
    rw [oval_lit]
    exact lit_sound hS (parts_rel hE parts) h
  case store size p x =>
    obtain ⟨a, ha, he⟩ := map_some' h
    cases he
    rw [oval_store]
    exact store_sound hS (hE.ev p) (hE.ev x) ha
  case app size bytes x y =>
    split at h
    case h_2 => cases h
    rename_i new hn
    obtain ⟨h1, h2, h3, h4⟩ := source_sound hS (hE.ev y) hn
    obtain ⟨pn, h5, h6⟩ := h4 new.length (Nat.le_refl _)
    rw [List.take_length] at h6
    rw [oval_app]
    unfold appV
    simp only [h1, h5]
    exact append_sound hS (hE.ev x) h2 h3 h6 h
  case appz zero bytes x n =>
    split at h
    case h_2 => cases h
    rename_i k hk
    split at h
    case isFalse => cases h
    rename_i hc
    obtain ⟨e1, _⟩ := vev_sc (hE.ev n) hk
    have hmem : ∀ x ∈ List.replicate k.toNat (elemOf (zero.map inj1)), (vcells x).length = zero.length := fun x hx => by rw [List.eq_of_mem_replicate hx]; exact zero_len hc.2.2
    have := append_sound hS (hE.ev x) hmem (all_flat (by
        rw [List.all_eq_true]
        intro x hx
        rw [List.eq_of_mem_replicate hx, vcells_elemOf hc.2.2]
        exact hc.2.2)) (zcells_rep hc.2.2 _) h
    rw [List.length_replicate] at this
    rw [oval_appz]
    unfold appzV
    rw [e1]
    simp only [if_pos (show 0 ≤ k ∧ k * (bytes : Int) ≤ 140737488355328 from ⟨hc.1, hc.2.1⟩)]
    exact this
  case copy size x y =>
    rw [oval_copy]
    exact copy_sound hS (hE.ev x) (hE.ev y) h
  case clear zero x =>
    obtain ⟨a, ha, he⟩ := map_some' h
    cases he
    rw [oval_clear]
    exact clear_sound hS (hE.ev x) ha
  all_goals cases h
end
end Go.PM
/- Pure values: they are told by the pure machine's heap alone, and by no other tree; each of them can be laid in a heap. -/
namespace Go.PM
def bare (F : Nat → Prop) (P : Heap) : View := ⟨fun _ => 0, F, [], P, 0⟩
theorem pureL_mem {es : List VV} : pureL es = true ↔ ∀ x ∈ es, pureV x = true := by
  induction es with
  | nil => simp [pureL]
  | cons x xs ih => simp [pureL, ih]
theorem pureL_cells {x : VV} (h : pureV x = true) : pureL (vcells x) = true := by
  unfold vcells
  split
  · simpa [pureV] using h
  · simp [pureL, h]
theorem pureL_flat {es : List VV} (h : pureL es = true) : pureL (es.flatMap vcells) = true := by
  rw [pureL_mem] at h ⊢
  intro x hx
  obtain ⟨y, hy, hxy⟩ := List.mem_flatMap.1 hx
  exact pureL_mem.1 (pureL_cells (h y hy)) x hxy
theorem pure_tree {es : List VV} {k : TK} (h : pureV (.tree es k) = true) : k = .op ∧ pureL es = true ∧ uni es = true := by
  simp only [pureV, Bool.and_eq_true, decide_eq_true_eq] at h
  exact ⟨h.1.1, h.1.2, h.2⟩
theorem pure_notAny {x : VV} (h : pureV x = true) : x ≠ .any := by
  rintro rfl
  cases h
theorem uni_len {es : List VV} (h : uni es = true) : ∃ e, ∀ x ∈ es, (vcells x).length = e := by
  cases es with
  | nil => exact ⟨0, fun x hx => by cases hx⟩
  | cons x xs =>
    refine ⟨(vcells x).length, fun y hy => ?_⟩
    rcases List.mem_cons.1 hy with rfl | hy
    · rfl
    · have := List.all_eq_true.1 h y hy
      simpa using this
section
variable {V V' : View}
theorem VR.pure {x : VV} {v : Value} (hF : ∀ b, V.F b → V'.F b ∧ V'.P[b]? = V.P[b]?) (h : VR V x v) : pureV x = true → VR V' x v := by
  induction h using VR.rec (motive_2 := fun xs vs _ => pureL xs = true → VL V' xs vs) with
  | any => intro hp; cases hp
  | sc _ h => intro _; exact .sc _ h
  | agg cs ps _ ih => intro hp; exact .agg _ _ (ih hp)
  | tup cs ps _ ih => intro hp; exact .tup _ _ (ih hp)
  | tnil k hk => intro _; exact .tnil k hk
  | tree es k b o c r e p hFb hb ho hc he hk _ ih => intro hp; exact .tree es k b o c r e p (hF _ hFb).1 (by rw [(hF _ hFb).2]; exact hb) ho hc he hk (ih (pureL_flat (pure_tree hp).2.1))
  | tptr x off b o r e p hFb hb ho _ ih => intro hp; exact .tptr x off b o r e p (hF _ hFb).1 (by rw [(hF _ hFb).2]; exact hb) ho (ih (pureL_cells hp))
  | ref => intro hp; cases hp
  | ptr => intro hp; cases hp
  | clo f caps ps _ ih => intro hp; exact .clo _ _ _ (ih hp)
  | nil => exact .nil
  | cons x v xs vs _ _ ih ihs =>
    rename_i hp
    simp only [pureL, Bool.and_eq_true] at hp
    exact .cons _ _ _ _ (ih hp.1) (ihs hp.2)
theorem VL.pure {xs : List VV} {vs : List Value} (hF : ∀ b, V.F b → V'.F b ∧ V'.P[b]? = V.P[b]?) (h : VL V xs vs) (hp : pureL xs = true) : VL V' xs vs := by
  induction xs generalizing vs with
  | nil => cases h; exact .nil
  | cons x xs ih => cases h with
    | cons _ v _ vs h hs =>
      simp only [pureL, Bool.and_eq_true] at hp
      exact .cons _ _ _ _ (h.pure hF hp.1) (ih hs hp.2)
theorem VL.flatten {es : List VV} {ps : List Value} (h : VL V es ps) (hp : pureL es = true) : VL V (es.flatMap vcells) (ps.flatMap pcells) := by
  induction es generalizing ps with
  | nil => cases h; exact .nil
  | cons x xs ih =>
    cases h with
    | cons _ v _ vs h hs =>
      simp only [pureL, Bool.and_eq_true] at hp
      rw [List.flatMap_cons, List.flatMap_cons]
      exact (h.cells (pure_notAny hp.1)).append (ih hs hp.2)
theorem up_bare {P P' : Heap} (h : P <+: P') : ∀ b, (bare (· < P.length) P).F b → (bare (· < P'.length) P').F b ∧ (bare (· < P'.length) P').P[b]? = (bare (· < P.length) P).P[b]? := by
  intro b hb
  obtain ⟨L, rfl⟩ := h
  have hb' : b < P.length := hb
  exact ⟨by show b < (P ++ L).length; simp; omega, List.getElem?_append_left hb'⟩
mutual
theorem real (x : VV) (hp : pureV x = true) (P : Heap) : ∃ P' pv, P <+: P' ∧ VR (bare (· < P'.length) P') x pv := by
  cases x with
  | any => cases hp
  | sc v => exact ⟨P, v, List.prefix_refl _, .sc v hp⟩
  | agg cs =>
    obtain ⟨P', ps, h1, h2⟩ := realL cs hp P
    exact ⟨P', _, h1, .agg _ _ h2⟩
  | tup cs =>
    obtain ⟨P', ps, h1, h2⟩ := realL cs hp P
    exact ⟨P', _, h1, .tup _ _ h2⟩
  | tree es k =>
    obtain ⟨rfl, h1, h2⟩ := pure_tree hp
    obtain ⟨P', ps, h3, h4⟩ := realL es h1 P
    obtain ⟨e, he⟩ := uni_len h2
    have h5 := h4.flatten h1
    have hl := h5.length
    rw [flatv_len he] at hl
    have hpre : P' <+: P' ++ [Blk.row (ps.flatMap pcells) e false] := List.prefix_append _ _
    refine ⟨_, .slice (some ⟨P'.length, 0, none⟩) es.length es.length, h3.trans hpre, ?_⟩
    refine .tree es .op P'.length 0 es.length (ps.flatMap pcells) e false (show P'.length < (P' ++ [Blk.row (ps.flatMap pcells) e false]).length by simp) (by show (P' ++ [Blk.row (ps.flatMap pcells) e false])[P'.length]? = _; simp) (by omega) (Nat.le_refl _) he trivial ?_
    rw [List.drop_zero, List.take_of_length_le (by omega)]
    exact VL.pure (up_bare hpre) h5 (pureL_flat h1)
  | tptr x off =>
    obtain ⟨P', pv, h3, h4⟩ := real x hp P
    have h5 := h4.cells (pure_notAny hp)
    have hpre : P' <+: P' ++ [Blk.row (pcells pv) (pcells pv).length false] := List.prefix_append _ _
    refine ⟨_, .pointer (some ⟨P'.length, 0 + off, none⟩), h3.trans hpre, ?_⟩
    refine .tptr x off P'.length 0 (pcells pv) (pcells pv).length false (show P'.length < (P' ++ [Blk.row (pcells pv) (pcells pv).length false]).length by simp) (by show (P' ++ [Blk.row (pcells pv) (pcells pv).length false])[P'.length]? = _; simp) (by rw [h5.length]; omega) ?_
    rw [List.drop_zero, List.take_of_length_le (by rw [h5.length]; exact Nat.le_refl _)]
    exact VL.pure (up_bare hpre) h5 (pureL_cells hp)
  | ref => cases hp
  | ptr => cases hp
  | clo f caps =>
    obtain ⟨P', ps, h1, h2⟩ := realL caps hp P
    exact ⟨P', _, h1, .clo _ _ _ h2⟩
theorem realL (xs : List VV) (hp : pureL xs = true) (P : Heap) : ∃ P' ps, P <+: P' ∧ VL (bare (· < P'.length) P') xs ps := by
  cases xs with
  | nil => exact ⟨P, [], List.prefix_refl _, .nil⟩
  | cons x xs =>
    simp only [pureL, Bool.and_eq_true] at hp
    obtain ⟨P1, pv, h1, h2⟩ := real x hp.1 P
    obtain ⟨P2, ps, h3, h4⟩ := realL xs hp.2 P1
    exact ⟨P2, pv :: ps, h1.trans h3, .cons _ _ _ _ (h2.pure (up_bare h3) hp.1) h4⟩
end
theorem resL_mem {es : List VV} : resL es = true ↔ ∀ x ∈ es, resV x = true := by
  induction es with
  | nil => simp [resL]
  | cons x xs ih => simp [resL, ih]
theorem res_tree {es : List VV} {k : TK} (h : resV (.tree es k) = true) : k = .op ∧ resL es = true ∧ uni es = true ∧ es.all elemOk = true := by
  simp only [resV, Bool.and_eq_true, decide_eq_true_eq] at h
  exact ⟨h.1.1.1, h.1.1.2, h.1.2, h.2⟩
theorem resL_cells {x : VV} (h : resV x = true) : resL (vcells x) = true := by
  unfold vcells
  split
  · simpa [resV] using h
  · simp [resL, h]
theorem resL_flat {es : List VV} (h : resL es = true) : resL (es.flatMap vcells) = true := by
  rw [resL_mem] at h ⊢
  intro x hx
  obtain ⟨y, hy, hxy⟩ := List.mem_flatMap.1 hx
  exact resL_mem.1 (resL_cells (h y hy)) x hxy
mutual
theorem res_pure (x : VV) (h : resV x = true) : pureV x = true := by
  cases x with
  | sc v => exact h
  | agg cs => exact res_pureL cs h
  | tup cs => exact res_pureL cs h
  | tree es k =>
    obtain ⟨h1, h2, h3, _⟩ := res_tree h
    simp [pureV, h1, res_pureL es h2, h3]
  | any => cases h
  | tptr => cases h
  | ref => cases h
  | ptr => cases h
  | clo => cases h
theorem res_pureL (xs : List VV) (h : resL xs = true) : pureL xs = true := by
  cases xs with
  | nil => rfl
  | cons x xs =>
    simp only [resL, Bool.and_eq_true] at h
    simp [pureL, res_pure x h.1, res_pureL xs h.2]
end
theorem elems_eq {e : Nat} : ∀ {es es' : List VV}, (∀ x ∈ es, (vcells x).length = e) → (∀ x ∈ es', (vcells x).length = e) → es.all elemOk = true → es'.all elemOk = true → es.length = es'.length → es.flatMap vcells = es'.flatMap vcells → es = es'
  | [], [], _, _, _, _, _, _ => rfl
  | x :: es, y :: es', h1, h2, h3, h4, hl, h => by
    rw [List.flatMap_cons, List.flatMap_cons] at h
    have hx := h1 x List.mem_cons_self
    have hy := h2 y List.mem_cons_self
    obtain ⟨e1, e2⟩ := List.append_inj h (by omega)
    simp only [List.all_cons, Bool.and_eq_true] at h3 h4
    have hxy : x = y := by
      have g1 := h3.1
      have g2 := h4.1
      unfold vcells at e1
      split at e1 <;> split at e1
      · rw [e1]
      · rename_i cs _ _
        subst e1
        cases g1
      · rename_i cs
        subst e1
        cases g2
      · injection e1
    rw [hxy, elems_eq (fun z hz => h1 z (List.mem_cons_of_mem _ hz)) (fun z hz => h2 z (List.mem_cons_of_mem _ hz)) h3.2 h4.2 (by simpa using hl) e2]
theorem VR.uniq {x y : VV} {v : Value} (h : VR V x v) (h' : VR V y v) (hx : resV x = true) (hy : resV y = true) : x = y := by
  induction h using VR.rec (motive_2 := fun xs vs _ => ∀ ys, VL V ys vs → resL xs = true → resL ys = true → xs = ys) generalizing y with
  | any => cases hx
  | sc _ h => cases h' with
    | sc _ _ => rfl
    | any => cases hy
    | agg => cases h
    | tup => cases h
    | tnil => cases h
    | tree => cases h
    | tptr => cases hy
    | ref => cases hy
    | ptr => cases hy
    | clo => cases hy
  | agg cs ps h ih => generalize hw : Value.agg ps.toArray = w at h'; cases h' with
    | sc _ h' => subst hw; cases h'
    | any => cases hy
    | agg cs' ps' h' =>
      injection hw with hw
      have : ps = ps' := by simpa using hw
      subst this
      rw [ih _ h' hx hy]
    | tup => cases hw
    | tnil => cases hw
    | tree => cases hw
    | tptr => cases hy
    | ref => cases hy
    | ptr => cases hy
    | clo => cases hy
  | tup cs ps h ih => generalize hw : Value.tuple ps.toArray = w at h'; cases h' with
    | sc _ h' => subst hw; cases h'
    | any => cases hy
    | tup cs' ps' h' =>
      injection hw with hw
      have : ps = ps' := by simpa using hw
      subst this
      rw [ih _ h' hx hy]
    | agg => cases hw
    | tnil => cases hw
    | tree => cases hw
    | tptr => cases hy
    | ref => cases hy
    | ptr => cases hy
    | clo => cases hy
  | tnil k hk =>
    obtain ⟨rfl, _⟩ := res_tree hx
    generalize hw : Value.slice none 0 0 = w at h'
    cases h' with
    | sc _ h' => subst hw; cases h'
    | any => cases hy
    | tnil k' hk' => obtain ⟨rfl, _⟩ := res_tree hy; rfl
    | agg => cases hw
    | tup => cases hw
    | tree => cases hw
    | tptr => cases hy
    | ref => cases hy
    | ptr => cases hy
    | clo => cases hy
  | tree es k b o c r e p hF hb ho hc he hk hl ih =>
    obtain ⟨rfl, hx1, hx2, hx3⟩ := res_tree hx
    generalize hw : Value.slice (some ⟨b, o, none⟩) es.length c = w at h'
    cases h' with
    | sc _ h' => subst hw; cases h'
    | any => cases hy
    | tnil => cases hw
    | agg => cases hw
    | tup => cases hw
    | tree es' k' b' o' c' r' e' p' hF' hb' ho' hc' he' hk' hl' =>
      obtain ⟨rfl, hy1, hy2, hy3⟩ := res_tree hy
      injection hw with h1 h2 h3
      injection h1 with h1
      injection h1 with h1 h4
      subst h1 h3 h4
      rw [hb] at hb'
      injection hb' with hb'
      injection hb' with g1 g2 g3
      subst g1 g2 g3
      rw [← h2] at hl'
      rw [elems_eq he he' hx3 hy3 h2 (ih _ hl' (resL_flat hx1) (resL_flat hy1))]
    | tptr => cases hy
    | ref => cases hy
    | ptr => cases hy
    | clo => cases hy
  | tptr => cases hx
  | ref => cases hx
  | ptr => cases hx
  | clo => cases hx
  | nil => rename_i h' _ _; cases h'; rfl
  | cons x v xs vs _ _ ih ihs =>
    rename_i ys h' hx hy
    cases h' with
    | cons y _ ys _ h' hs' =>
      simp only [resL, Bool.and_eq_true] at hx hy
      rw [ih h' hx.1 hy.1, ihs _ hs' hx.2 hy.2]
end
end Go.PM
/- What is handed over, told as trees: it stands for the same. -/
namespace Go.PM
section
variable {V : View} {lo lop : Nat}
theorem mapM_cons_some {α β : Type} {f : α → Option β} {x : α} {xs : List α} {r : List β} (h : (x :: xs).mapM f = some r) : ∃ y ys, f x = some y ∧ xs.mapM f = some ys ∧ r = y :: ys := by
  rw [List.mapM_cons] at h
  cases hx : f x with
  | none => rw [hx] at h; cases h
  | some y =>
    rw [hx] at h
    cases hs : xs.mapM f with
    | none => rw [hs] at h; cases h
    | some ys => rw [hs] at h; cases h; exact ⟨y, ys, rfl, rfl, rfl⟩
theorem mapM_len {α β : Type} {f : α → Option β} : ∀ {xs : List α} {r : List β}, xs.mapM f = some r → r.length = xs.length
  | [], r, h => by cases h; rfl
  | x :: xs, r, h => by
    obtain ⟨y, ys, _, h2, rfl⟩ := mapM_cons_some h
    simp [mapM_len h2]
theorem fz_kind {d : Nat} {H : VHeap} {x x' : VV} (h : fz d H x = some x') : (∃ cs cs', x = .agg cs ∧ x' = .agg cs' ∧ cs'.length = cs.length) ∨ (vcells x = [x] ∧ vcells x' = [x']) := by
  cases d with
  | zero => cases h
  | succ d =>
    unfold fz at h
    split at h
    · cases h
      cases x with
      | agg cs => exact .inl ⟨cs, cs, rfl, rfl, rfl⟩
      | _ => exact .inr ⟨rfl, rfl⟩
    · split at h
      · obtain ⟨cs', h1, rfl⟩ := map_some' h
        exact .inl ⟨_, _, rfl, rfl, mapM_len h1⟩
      · obtain ⟨cs', h1, rfl⟩ := map_some' h; exact .inr ⟨rfl, rfl⟩
      · obtain ⟨cs', h1, rfl⟩ := map_some' h; exact .inr ⟨rfl, rfl⟩
      · obtain ⟨cs', h1, rfl⟩ := map_some' h; exact .inr ⟨rfl, rfl⟩
      · split at h
        · split at h
          · obtain ⟨cs', h1, rfl⟩ := map_some' h; exact .inr ⟨rfl, rfl⟩
          · cases h
        · cases h
      · split at h
        · split at h
          · obtain ⟨cs', h1, rfl⟩ := map_some' h; exact .inr ⟨rfl, rfl⟩
          · cases h
        · cases h
      · obtain ⟨cs', h1, rfl⟩ := map_some' h; exact .inr ⟨rfl, rfl⟩
      · cases h
theorem fz_clen {d : Nat} {H : VHeap} {x x' : VV} (h : fz d H x = some x') : (vcells x').length = (vcells x).length := by
  rcases fz_kind h with ⟨cs, cs', rfl, rfl, h'⟩ | ⟨h1, h2⟩
  · exact h'
  · rw [h1, h2]; rfl
def IdsIn (V : View) (G : Nat → Prop) (ids : List Nat) : Prop := ∀ i ∈ ids, ∀ g es e w, V.H[i]? = some (.row g es e w) → G (V.m i)
theorem fz_sound (hS : SR V lo lop) {G : Nat → Prop} (hG : ∀ q, V.F q → G q) : ∀ (d : Nat) (v v' : VV) (pv : Value), VR V v pv → fz d V.H v = some v' → IdsIn V G (fzIds d V.H v) → VR (bare G V.P) v' pv := by
  have hFG : ∀ b, V.F b → (bare G V.P).F b ∧ (bare G V.P).P[b]? = V.P[b]? := fun b hb => ⟨hG b hb, rfl⟩
  intro d
  induction d with
  | zero => intro v v' pv _ h; cases h
  | succ d ih =>
    have ihL : ∀ (xs xs' : List VV) (ps : List Value), VL V xs ps → xs.mapM (fz d V.H) = some xs' → IdsIn V G (xs.flatMap (fzIds d V.H)) → VL (bare G V.P) xs' ps := by
      intro xs
      induction xs with
      | nil => intro xs' ps hl h _; cases h; cases hl; exact .nil
      | cons x xs ihx =>
        intro xs' ps hl h hi
        obtain ⟨y, ys, h1, h2, rfl⟩ := mapM_cons_some h
        cases hl with
        | cons _ v _ vs hx hxs =>
          exact .cons _ _ _ _ (ih x y v hx h1 fun i hi' => hi i (by rw [List.flatMap_cons]; exact List.mem_append_left _ hi')) (ihx ys vs hxs h2 fun i hi' => hi i (by rw [List.flatMap_cons]; exact List.mem_append_right _ hi'))
    have ihC : ∀ (x x' : VV) (ps : List Value), VL V (vcells x) ps → fz d V.H x = some x' → IdsIn V G (fzIds d V.H x) → VL (bare G V.P) (vcells x') ps := by
      intro x x' ps hl h hi
      rcases fz_kind h with ⟨cs, cs', rfl, rfl, hcl⟩ | ⟨h1, h2⟩
      · have := ih _ _ (.agg ps.toArray) (.agg _ _ hl) h hi
        generalize hw : Value.agg ps.toArray = w at this
        cases this with
        | agg _ ps' hl' =>
          injection hw with hw
          have : ps = ps' := by simpa using hw
          subst this
          exact hl'
      · rw [h1] at hl
        rw [h2]
        cases hl with
        | cons _ v _ vs hx hxs =>
          cases hxs
          exact .cons _ _ _ _ (ih _ _ _ hx h hi) .nil
    have ihF : ∀ (xs xs' : List VV) (ps : List Value), VL V (xs.flatMap vcells) ps → xs.mapM (fz d V.H) = some xs' → IdsIn V G (xs.flatMap (fzIds d V.H)) → VL (bare G V.P) (xs'.flatMap vcells) ps := by
      intro xs
      induction xs with
      | nil => intro xs' ps hl h _; cases h; cases hl; exact .nil
      | cons x xs ihx =>
        intro xs' ps hl h hi
        obtain ⟨y, ys, h1, h2, rfl⟩ := mapM_cons_some h
        rw [List.flatMap_cons] at hl ⊢
        have hlen := hl.length
        have a1 := hl.take (vcells x).length
        have a2 := hl.drop (vcells x).length
        rw [List.take_left] at a1
        rw [List.drop_left] at a2
        rw [← List.take_append_drop (vcells x).length ps]
        exact (ihC x y _ a1 h1 fun i hi' => hi i (by rw [List.flatMap_cons]; exact List.mem_append_left _ hi')).append (ihx ys _ a2 h2 fun i hi' => hi i (by rw [List.flatMap_cons]; exact List.mem_append_right _ hi'))
    have elen : ∀ (xs xs' : List VV) (e : Nat), xs.mapM (fz d V.H) = some xs' → (∀ x ∈ xs, (vcells x).length = e) → ∀ x ∈ xs', (vcells x).length = e := by
      intro xs
      induction xs with
      | nil => intro xs' e h _ x hx; cases h; cases hx
      | cons x xs ihx =>
        intro xs' e h he z hz
        obtain ⟨y, ys, h1, h2, rfl⟩ := mapM_cons_some h
        rcases List.mem_cons.1 hz with rfl | hz
        · rw [fz_clen h1]; exact he x List.mem_cons_self
        · exact ihx ys e h2 (fun w hw => he w (List.mem_cons_of_mem _ hw)) z hz
    intro v v' pv hv h hi
    unfold fz at h
    unfold fzIds at hi
    split at h
    · rename_i hp
      cases h
      exact hv.pure hFG hp
    · rename_i hp
      rw [if_neg hp] at hi
      split at h
      · obtain ⟨cs', h1, rfl⟩ := map_some' h
        cases hv with
        | agg cs ps hl => exact .agg _ _ (ihL _ _ _ hl h1 hi)
      · obtain ⟨cs', h1, rfl⟩ := map_some' h
        cases hv with
        | tup cs ps hl => exact .tup _ _ (ihL _ _ _ hl h1 hi)
      · obtain ⟨cs', h1, rfl⟩ := map_some' h
        cases hv with
        | tnil k hk => cases h1; exact .tnil _ (.inl rfl)
        | tree es k b o c r e p hF hb ho hc he hk hl =>
          have hlen := mapM_len h1
          have := VR.tree (V := bare G V.P) cs' .op b o c r e p (hG b hF) hb (by rw [hlen]; exact ho) (by rw [hlen]; exact hc) (elen _ _ _ h1 he) trivial (by rw [hlen]; exact ihF _ _ _ hl h1 hi)
          rw [hlen] at this
          exact this
      · obtain ⟨x', h1, rfl⟩ := map_some' h
        cases hv with
        | tptr x off b o r e p hF hb ho hl =>
          have hlen := fz_clen h1
          exact .tptr x' _ b o r e p (hG b hF) hb (by rw [hlen]; exact ho) (by rw [hlen]; exact ihC _ _ _ hl h1 hi)
      · rename_i b g o n c
        split at h
        case h_2 => cases h
        rename_i es e w hr
        simp only [hr] at hi
        rw [vrow_some] at hr
        split at h
        case isFalse => cases h
        rename_i hon'
        obtain ⟨hon, hcap⟩ := hon'
        obtain ⟨es', h1, rfl⟩ := map_some' h
        obtain ⟨r, p, k1, k2, k3⟩ := hS.row b g es e w hr
        have hrl := k3.length
        rw [flatv_len k2] at hrl
        cases hv with
        | ref b g o n c a n' c' hlt hg ha hq =>
          obtain ⟨rfl, rfl, rfl⟩ := ha _ _ _ hr
          have hsub : ∀ x ∈ (es.drop o).take n', (vcells x).length = e := fun x hx => k2 x (List.mem_of_mem_drop (List.mem_of_mem_take hx))
          have hn2 : ((es.drop o).take n').length = n' := by simp; omega
          have hlen := mapM_len h1
          rw [hn2] at hlen
          have hm : (o + n') * e ≤ es.length * e := Nat.mul_le_mul_right _ hon
          rw [Nat.add_mul] at hm
          have hl : VL V (((es.drop o).take n').flatMap vcells) ((r.drop (o * e)).take (n' * e)) := by
            have h4 := (k3.drop (o * e)).take (n' * e)
            rw [flatv_drop k2, flatv_take (fun x hx => k2 x (List.mem_of_mem_drop hx))] at h4
            exact h4
          have hGb : G (V.m b) := hi b List.mem_cons_self _ _ _ _ hr
          have := VR.tree (V := bare G V.P) es' .op (V.m b) (o * e) c' r e p hGb k1 (by rw [hlen]; omega) (by rw [hlen]; exact hcap) (elen _ _ _ h1 hsub) trivial (by rw [hlen]; exact ihF _ _ _ hl h1 fun i hi' => hi i (List.mem_cons_of_mem _ hi'))
          rw [hlen] at this
          exact this
      · rename_i b g j o
        split at h
        case h_2 => cases h
        rename_i es e w hr
        simp only [hr] at hi
        rw [vrow_some] at hr
        split at h
        case h_2 => cases h
        rename_i x hx
        simp only [hx] at hi
        obtain ⟨x', h1, rfl⟩ := map_some' h
        obtain ⟨r, p, k1, k2, k3, k4⟩ := elem_sound hS hr hx
        cases hv with
        | ptr b g j off a hlt hg ha hq =>
          have := ha _ _ _ hr
          subst this
          have hlen := fz_clen h1
          exact .tptr x' o (V.m b) (j * e) r e p (hi b List.mem_cons_self _ _ _ _ hr) k1 (by rw [hlen]; exact k3) (by rw [hlen]; exact ihC _ _ _ k4 h1 fun i hi' => hi i (List.mem_cons_of_mem _ hi'))
      · obtain ⟨cs', h1, rfl⟩ := map_some' h
        cases hv with
        | clo f caps ps hl => exact .clo _ _ _ (ihL _ _ _ hl h1 hi)
      · cases h
theorem fzL_sound (hS : SR V lo lop) {G : Nat → Prop} (hG : ∀ q, V.F q → G q) {d : Nat} : ∀ {xs xs' : List VV} {ps : List Value}, VL V xs ps → xs.mapM (fz d V.H) = some xs' → IdsIn V G (xs.flatMap (fzIds d V.H)) → VL (bare G V.P) xs' ps
  | [], xs', ps, hl, h, _ => by cases h; cases hl; exact .nil
  | x :: xs, xs', ps, hl, h, hi => by
    obtain ⟨y, ys, h1, h2, rfl⟩ := mapM_cons_some h
    cases hl with
    | cons _ v _ vs hx hxs =>
      exact .cons _ _ _ _ (fz_sound hS hG d x y v hx h1 fun i hi' => hi i (by rw [List.flatMap_cons]; exact List.mem_append_left _ hi')) (fzL_sound hS hG hxs h2 fun i hi' => hi i (by rw [List.flatMap_cons]; exact List.mem_append_right _ hi'))
def View.freezeAll (V : View) (ids : List Nat) : View := ids.foldl View.freeze V
theorem freezeAll_sound : ∀ (ids : List Nat) {V : View}, SR V lo lop → SR (V.freezeAll ids) lo lop ∧ Eff lo V (V.freezeAll ids) ∧ (V.freezeAll ids).H = PM.freezeAll V.H ids ∧ (V.freezeAll ids).P = V.P ∧ (V.freezeAll ids).m = V.m ∧ IdsIn V (V.freezeAll ids).F ids
  | [], V, hS => ⟨hS, Eff.refl _ _, rfl, rfl, rfl, fun i hi => by cases hi⟩
  | i :: ids, V, hS => by
    obtain ⟨h1, h2, h3⟩ := freeze_sound hS i
    obtain ⟨g1, g2, g3, g4, g5, g6⟩ := freezeAll_sound ids h1
    refine ⟨g1, h2.trans g2, ?_, g4.trans (freeze_P V i), g5.trans (freeze_m V i), ?_⟩
    · show ((V.freeze i).freezeAll ids).H = _
      rw [g3, freeze_H]
      rfl
    · intro k hk g es e w hr
      show ((V.freeze i).freezeAll ids).F (V.m k)
      rcases List.mem_cons.1 hk with rfl | hk
      · exact g2.F _ (h3 _ _ _ _ hr)
      · have hr' : ∃ g es e w, (V.freeze i).H[k]? = some (.row g es e w) := by
          rw [freeze_H]
          unfold freeze1
          split
          · rename_i g' es' e' w' hi
            by_cases hki : k = i
            · subst hki
              exact ⟨g', es', e', false, List.getElem?_set_self (List.getElem?_eq_some_iff.1 hi).1⟩
            · exact ⟨g, es, e, w, by rw [List.getElem?_set_ne (Ne.symm hki)]; exact hr⟩
          · exact ⟨g, es, e, w, hr⟩
        obtain ⟨g', es', e', w', hr'⟩ := hr'
        have := g6 k hk _ _ _ _ hr'
        rw [freeze_m] at this
        exact this
end
end Go.PM
