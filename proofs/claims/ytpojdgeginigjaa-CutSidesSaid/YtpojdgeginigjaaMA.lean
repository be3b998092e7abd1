/- The abstract interpreter: values, instructions, code, heap; its run by rounds; its run without rounds (the limit), by equations. Plain definitions and lemmas: nothing of a program stands here. -/
import Derived.CallsIn
import Derived.Orders
import Derived.Below
import Derived.Laws.Sem
import Derived.Laws.Cells
import Derived.Laws.Entries
import Derived.Laws.CopyRow
import Derived.Laws.Append
import Derived.Laws.MakeOwn
import Derived.Laws.StructEq
import Derived.Laws.Slices
import Derived.RangeFuncRecord
import Derived.WalkSpells
import Derived.MapKept
set_option linter.unusedSimpArgs false
set_option linter.unusedVariables false
namespace Go.Ar

/-- Values of the abstract run. 'undef': of which nothing is known. Pointers and slices go to a place (block k, cell o). 'es': an empty slice whose address is not known. -/
inductive V where
  | undef
  | bool (b : Bool)
  | int (k : IntKind) (n : Int)
  | nilp
  | ptr (k o : Nat)
  | nils
  | es
  | sl (k o len cap : Nat)
  | nilm
  | map (k : Nat)
  | nilf
  | fn (f : Nat) (first cap : List V)
  | yld (k : Nat)
  | agg (cs : List V)
  | tup (vs : List V)
  deriving Inhabited

inductive X where
  | t (n : Nat)
  | c (v : V)

/-- What '==' compares. -/
inductive EK where
  | bool | ptr | sl | fn
  | agg (ks : List Bool)
  deriving DecidableEq

/-- Keys of maps: whole numbers; pairs of such. -/
inductive KK where
  | int | pair
  deriving DecidableEq

inductive I where
  | mv (x : X)
  | pick (c a b : X)
  | alloc (zs : List V)
  | box (n : Nat) (x : X)
  | build (zs : List V) (ps : List (Nat × Nat × X))
  | bslice (len size : Nat) (zs : List V) (ps : List (Nat × X))
  | load (n : Nat) (agg : Bool) (x : X)
  | store (n : Nat) (x v : X)
  | nilc (x : X)
  | bin (op : BinOp) (x y : X)
  | eq (ne : Bool) (e : EK) (x y : X)
  | neg (x : X)
  | not (x : X)
  | conv (k : IntKind) (x : X)
  | mkfn (f : Nat) (first cap : List X)
  | mkslice (size bytes : Nat) (zs : List V) (l : X)
  | slc (size : Nat) (x : X) (lo hi : Option X)
  | fadr (off : Nat) (x : X)
  | fld (off n : Nat) (agg : Bool) (x : X)
  | iadr (size : Nat) (x i : X)
  | idx (len size : Nat) (agg : Bool) (x i : X)
  | ext (x : X) (j : Nat)
  | call (f : X) (args : List X)
  | len (x : X)
  | mlen (x : X)
  | append (size bytes : Nat) (x y : X)
  | copy (size : Nat) (x y : X)
  | mn (x y : X)
  | mx (x y : X)
  | clear (size : Nat) (zs : List V) (x : X)
  | mkmap
  | lookup (kk : KK) (zero : V) (ok : Bool) (m k : X)
  | mapupd (kk : KK) (m k v : X)
  | mapent (kk : KK) (zero : V) (m k : X)
  | entst (m s v : X)
  | bad

structure Ins where
  dst : Option Nat
  i : I
  g : Option (Nat × Bool)

/-- How an operation is made within a region that draws its order. -/
inductive DM where
  | plain
  | hole (j : Nat)
  | pcall (hide : List Nat)

inductive Chk where
  | ne (x y : X)
  | nh (x : X) (j : Nat)
  | lt (x : X)

inductive MC where
  | skip
  | reg (ops : List Ins)
  | dreg (nh : Nat) (ops : List (DM × Ins)) (chk : List Chk)
  | seq (a b : MC)
  | cond (c : X) (a b : MC)
  | block (id : Nat) (a : MC)
  | loop (a : MC)
  | exit (id : Nat)
  | ret
  | rangef (f : X) (ps : List Nat) (asg body : MC)

inductive Ex where
  | normal
  | exit (id : Nat)
  | ret
  deriving DecidableEq

/-- ro, rg: not to be written (rg: made by append); ex: of just these cells; gr: made by append, elements of so many cells. -/
inductive Mode where
  | ro
  | rg (es : Nat)
  | ex
  | gr (es : Nat)
  deriving DecidableEq
def Mode.wr : Mode → Bool
  | .ex | .gr _ => true
  | _ => false

inductive LS where
  | ready
  | busy
  | done (e : Ex)

inductive Blk where
  | dead
  | cells (cs : List V) (m : Mode)
  | mp (es : List (V × V))
  | lp (τ : Nat → V) (ps : List Nat) (asg body : MC) (st : LS)

instance : Inhabited Blk := ⟨.dead⟩

abbrev Heap := List Blk
structure St where
  τ : Nat → V
  H : Heap

inductive Tgt where
  | f (n : Nat)
  | y (k : Nat)

abbrev CallF := Tgt → List V → Heap → Option (V × Heap)

def upd (τ : Nat → V) (d : Nat) (v : V) : Nat → V := fun t => cond (t == d) v (τ t)
def put (τ : Nat → V) (d : Option Nat) (v : V) : Nat → V := match d with | none => τ | some d => upd τ d v
def ev (τ : Nat → V) : X → V
  | .t n => τ n
  | .c v => v

/-- A value that one cell holds. -/
def V.scalar : V → Bool
  | .undef | .agg _ | .tup _ => false
  | _ => true
/-- The cells of a value. -/
def V.cells : V → Option (List V)
  | .undef | .tup _ => none
  | .agg cs => some cs
  | v => some [v]

def rd (H : Heap) (k o : Nat) : Option V := match H[k]? with | some (.cells cs _) => cs[o]? | _ => none
def rdn (H : Heap) (k o n : Nat) : Option (List V) :=
  match H[k]? with
  | some (.cells cs _) => if o + n ≤ cs.length then some ((cs.drop o).take n) else none
  | _ => none
def wrc {α : Type} : List α → Nat → List α → List α
  | cs, _, [] => cs
  | cs, o, v :: vs => wrc (cs.set o v) (o + 1) vs
def wr (H : Heap) (k o : Nat) (vs : List V) : Option Heap :=
  match H[k]? with
  | some (.cells cs m) => if m.wr = false then none else if o + vs.length ≤ cs.length then (if vs.all V.scalar then some (H.set k (.cells (wrc cs o vs) m)) else none) else none
  | _ => none

def fillc : List V → List (Nat × Nat × V) → Option (List V)
  | cs, [] => some cs
  | cs, (off, n, v) :: ps => match v.cells with
    | some vs => if vs.length = n then (if off + n ≤ cs.length then fillc (wrc cs off vs) ps else none) else none
    | none => none

def binop (op : BinOp) (x y : V) : Option V :=
  match x, y with
  | .int k a, .int k' b =>
    match op with
    | .shl => if 0 ≤ b then some (.int k (k.wrap (a * 2 ^ (min b.toNat k.bits)))) else none
    | .shr => if 0 ≤ b then some (.int k (a.fdiv (2 ^ (min b.toNat k.bits)))) else none
    | .add => if k = k' then some (.int k (k.wrap (a + b))) else none
    | .sub => if k = k' then some (.int k (k.wrap (a - b))) else none
    | .mul => if k = k' then some (.int k (k.wrap (a * b))) else none
    | .quo => if k = k' then (if b = 0 then none else some (.int k (k.wrap (a.tdiv b)))) else none
    | .rem => if k = k' then (if b = 0 then none else some (.int k (a.tmod b))) else none
    | .and => if k = k' then some (.int k (k.wrap ((BitVec.ofInt k.bits a &&& BitVec.ofInt k.bits b).toNat))) else none
    | .eql => if k = k' then some (.bool (a == b)) else none
    | .neq => if k = k' then some (.bool (a != b)) else none
    | .lss => if k = k' then some (.bool (decide (a < b))) else none
    | .leq => if k = k' then some (.bool (decide (a ≤ b))) else none
    | .gtr => if k = k' then some (.bool (decide (a > b))) else none
    | .geq => if k = k' then some (.bool (decide (a ≥ b))) else none
    | _ => none
  | _, _ => none

/-- Are two rows of whole numbers (where ks says so) and bools the same? -/
def eqAll : List Bool → List V → List V → Option Bool
  | [], [], [] => some true
  | true :: ks, .int k a :: xs, .int k' b :: ys => if k = k' then (if a == b then eqAll ks xs ys else some false) else none
  | false :: ks, .bool a :: xs, .bool b :: ys => if a == b then eqAll ks xs ys else some false
  | _, _, _ => none

def eqv (e : EK) (x y : V) : Option Bool :=
  match e, x, y with
  | .bool, .bool a, .bool b => some (a == b)
  | .ptr, .nilp, .nilp => some true
  | .ptr, .nilp, .ptr _ _ | .ptr, .ptr _ _, .nilp => some false
  | .sl, .nils, .nils => some true
  | .sl, .nils, .sl _ _ _ _ | .sl, .sl _ _ _ _, .nils => some false
  | .fn, .nilf, .nilf => some true
  | .fn, .nilf, .fn _ _ _ | .fn, .fn _ _ _, .nilf => some false
  | .agg ks, .agg xs, .agg ys => eqAll ks xs ys
  | _, _, _ => none

def keyWf : KK → V → Bool
  | .int, .int _ _ => true
  | .pair, .agg [.int _ _, .int _ _] => true
  | _, _ => false
def keyEq : V → V → Option Bool
  | .int k a, .int k' b => if k = k' then some (a == b) else none
  | .agg [.int k a, .int k' b], .agg [.int l c, .int l' d] => if k = l ∧ k' = l' then some (a == c && b == d) else none
  | _, _ => none
/-- Where a key stands. -/
def findk (x : V) : List (V × V) → Nat → Option (Option (Nat × V))
  | [], _ => some none
  | e :: es, i => match keyEq x e.1 with
    | some true => some (some (i, e.2))
    | some false => findk x es (i + 1)
    | none => none

def mpAt (H : Heap) (k : Nat) : Option (List (V × V)) := match H[k]? with | some (.mp es) => some es | _ => none

def mapOf (H : Heap) : V → Option (List (V × V))
  | .nilm => some []
  | .map k => mpAt H k
  | _ => none
def keyf (kk : KK) (x : V) (es : List (V × V)) : Option (Option (Nat × V)) := if keyWf kk x then findk x es 0 else none

def lim : Nat := 2 ^ 24

/-- A slice's cells, as many elements of so many cells as there are. -/
def cellsOf (H : Heap) (size : Nat) : V → Option (List V)
  | .nils | .es => some []
  | .sl k o len _ => rdn H k o (len * size)
  | _ => none
def lenOf : V → Option Nat
  | .nils | .es => some 0
  | .sl _ _ len _ => some len
  | _ => none

/-- append: behind an exact block a new one; behind one that append made the elder one is not to be touched any more. -/
def appendv (H : Heap) (size bytes : Nat) (x y : V) : Option (V × Heap) :=
  match lenOf y, cellsOf H size y with
  | some m, some ys =>
    if ys.all V.scalar = false then none else
    match x with
    | .nils => if m = 0 then some (.nils, H) else if m * bytes ≤ 2 ^ 40 ∧ m ≤ lim then some (.sl H.length 0 m m, H ++ [.cells ys (.gr size)]) else none
    | .sl k o len cap =>
      match H[k]? with
      | some (.cells cs md) =>
        if o + len * size ≤ cs.length then
          if len + m ≤ cap then
            match wr H k (o + len * size) ys with
            | some H' => some (.sl k o (len + m) cap, H')
            | none => none
          else if (len + m) * bytes ≤ 2 ^ 40 ∧ len + m ≤ lim then
            match md with
            | .ex => some (.sl H.length 0 (len + m) (len + m), H ++ [.cells ((cs.drop o).take (len * size) ++ ys) (.gr size)])
            | .gr es => if es = size ∧ o = 0 then some (.sl H.length 0 (len + m) (len + m), H.set k .dead ++ [.cells (cs.take (len * size) ++ ys) (.gr size)]) else none
            | _ => none
          else none
        else none
      | _ => none
    | _ => none
  | _, _ => none

def hiOf (len : Nat) : Option V → Option Int
  | none => some len
  | some (.int _ n) => some n
  | _ => none
def loOf : Option V → Option Int
  | none => some 0
  | some (.int _ n) => some n
  | _ => none
/-- The slice from l on, of capacity cap; moved is right where there is room behind. -/
def moved (k o size len cap l h : Nat) : V := if l = 0 then .sl k o h cap else if l < cap then .sl k (o + l * size) (h - l) (cap - l) else .es
def slcv (H : Heap) (size : Nat) (x : V) (lo hi : Option V) : Option V :=
  match x with
  | .sl k o len cap =>
    match hiOf len hi, loOf lo with
    | some h, some l =>
      if 0 ≤ l ∧ l ≤ h ∧ h ≤ cap then
        match H[k]? with
        | some (.cells _ (.gr es)) => if es = size then some (moved k o size len cap l.toNat h.toNat) else none
        | some (.cells _ (.rg es)) => if es = size then some (moved k o size len cap l.toNat h.toNat) else none
        | some (.cells _ .ex) => if l = cap then some (.sl k o 0 0) else some (.sl k (o + l.toNat * size) (h.toNat - l.toNat) (cap - l.toNat))
        | some (.cells _ .ro) => some (moved k o size len cap l.toNat h.toNat)
        | _ => none
      else none
    | _, _ => none
  | .nils =>
    match hiOf 0 hi, loOf lo with
    | some h, some l => if l = 0 ∧ h = 0 then some .nils else none
    | _, _ => none
  | .es =>
    match hiOf 0 hi, loOf lo with
    | some h, some l => if l = 0 ∧ h = 0 then some .es else none
    | _, _ => none
  | _ => none

def aop (call : CallF) (τ : Nat → V) (H : Heap) : I → Option (V × Heap)
  | .mv x => some (ev τ x, H)
  | .pick c a b => match ev τ c with | .bool t => some (cond t (ev τ a) (ev τ b), H) | _ => none
  | .alloc zs => some (.ptr H.length 0, H ++ [.cells zs .ex])
  | .box n x => match (ev τ x).cells with | some cs => if cs.length = n then some (.ptr H.length 0, H ++ [.cells cs .ex]) else none | none => none
  | .build zs ps => (fillc zs (ps.map fun p => (p.1, p.2.1, ev τ p.2.2))).map fun cs => (.agg cs, H)
  | .bslice len size zs ps => (fillc zs (ps.map fun p => (p.1, size, ev τ p.2))).map fun cs => (.sl H.length 0 len len, H ++ [.cells cs .ex])
  | .load n agg x => match ev τ x with
    | .ptr k o => if agg then (rdn H k o n).map fun cs => (.agg cs, H) else (rd H k o).map fun v => (v, H)
    | _ => none
  | .store n x v => match ev τ x, (ev τ v).cells with
    | .ptr k o, some cs => if cs.length = n then (wr H k o cs).map fun H' => (.undef, H') else none
    | _, _ => none
  | .nilc x => match ev τ x with | .ptr k o => some (.ptr k o, H) | .fn f a b => some (.fn f a b, H) | .yld k => some (.yld k, H) | _ => none
  | .bin op x y => (binop op (ev τ x) (ev τ y)).map fun v => (v, H)
  | .eq ne e x y => (eqv e (ev τ x) (ev τ y)).map fun b => (.bool (cond ne (!b) b), H)
  | .neg x => match ev τ x with | .int k n => some (.int k (k.wrap (0 - n)), H) | _ => none
  | .not x => match ev τ x with | .bool b => some (.bool (!b), H) | _ => none
  | .conv k x => match ev τ x with | .int _ n => some (.int k (k.wrap n), H) | _ => none
  | .mkfn f a b => some (.fn f (a.map (ev τ)) (b.map (ev τ)), H)
  | .mkslice _ bytes zs l => match ev τ l with
    | .int _ n => if 0 ≤ n ∧ n ≤ lim ∧ n * bytes ≤ 2 ^ 40 then some (.sl H.length 0 n.toNat n.toNat, H ++ [.cells ((List.replicate n.toNat zs).flatten) .ex]) else none
    | _ => none
  | .slc size x lo hi => (slcv H size (ev τ x) (lo.map (ev τ)) (hi.map (ev τ))).map fun v => (v, H)
  | .fadr off x => match ev τ x with | .ptr k o => some (.ptr k (o + off), H) | _ => none
  | .fld off n agg x => match ev τ x with
    | .agg cs => if agg then some (.agg ((cs.drop off).take n), H) else (cs[off]?).map fun v => (v, H)
    | _ => none
  | .iadr size x i => match ev τ x, ev τ i with
    | .sl k o len _, .int _ n => if 0 ≤ n ∧ n < len then some (.ptr k (o + n.toNat * size), H) else none
    | _, _ => none
  | .idx len size agg x i => match ev τ x, ev τ i with
    | .agg cs, .int _ n => if 0 ≤ n ∧ n < len then (if agg then some (.agg ((cs.drop (n.toNat * size)).take size), H) else (cs[n.toNat * size]?).map fun v => (v, H)) else none
    | _, _ => none
  | .ext x j => match ev τ x with | .tup vs => (vs[j]?).map fun v => (v, H) | _ => none
  | .call f args => match ev τ f with
    | .fn g a b => call (.f g) (a ++ args.map (ev τ) ++ b) H
    | .yld k => call (.y k) (args.map (ev τ)) H
    | _ => none
  | .len x => match ev τ x with
    | .nils | .es => some (.int .i64 0, H)
    | .sl _ _ n _ => some (.int .i64 n, H)
    | _ => none
  | .mlen x => (mapOf H (ev τ x)).map fun es => (.int .i64 es.length, H)
  | .append size bytes x y => appendv H size bytes (ev τ x) (ev τ y)
  | .copy size x y =>
    match lenOf (ev τ x), lenOf (ev τ y) with
    | some n, some m => match cellsOf H size (ev τ y) with
      | some ys => match ev τ x with
        | .sl k o _ _ => (wr H k o (ys.take (min m n * size))).map fun H' => (.int .i64 (min m n), H')
        | .nils => some (.int .i64 0, H)
        | _ => none
      | none => none
    | _, _ => none
  | .mn x y => match ev τ x, ev τ y with | .int k a, .int k' b => if k = k' then some (.int k (if b < a then b else a), H) else none | _, _ => none
  | .mx x y => match ev τ x, ev τ y with | .int k a, .int k' b => if k = k' then some (.int k (if b > a then b else a), H) else none | _, _ => none
  | .clear _ zs x => match ev τ x with
    | .nils => some (.tup [], H)
    | .sl k o n _ => if n = 0 then some (.tup [], H) else (wr H k o ((List.replicate n zs).flatten)).map fun H' => (.tup [], H')
    | _ => none
  | .mkmap => some (.map H.length, H ++ [.mp []])
  | .lookup kk zero ok m x => match mapOf H (ev τ m) with
    | some es => match keyf kk (ev τ x) es with
      | some (some (_, v)) => some (cond ok (.tup [v, .bool true]) v, H)
      | some none => some (cond ok (.tup [zero, .bool false]) zero, H)
      | none => none
    | none => none
  | .mapupd kk m x v => match ev τ m with
    | .map k => match mpAt H k with
      | some es => match keyf kk (ev τ x) es with
        | some (some (i, _)) => some (.undef, H.set k (.mp (es.set i (ev τ x, ev τ v))))
        | some none => some (.undef, H.set k (.mp (es ++ [(ev τ x, ev τ v)])))
        | none => none
      | none => none
    | _ => none
  | .mapent kk zero m x => match ev τ m with
    | .map k => match mpAt H k with
      | some es => match keyf kk (ev τ x) es with
        | some (some (i, v)) => some (.tup [v, .int .i64 i], H.set k (.mp (es.set i (ev τ x, v))))
        | some none => some (.tup [zero, .int .i64 es.length], H.set k (.mp (es ++ [(ev τ x, zero)])))
        | none => none
      | none => none
    | _ => none
  | .entst m s v => match ev τ m, ev τ s with
    | .map k, .int _ n => match mpAt H k with
      | some es => match es[n.toNat]? with
        | some e => if 0 ≤ n then some (.undef, H.set k (.mp (es.set n.toNat (e.1, ev τ v)))) else none
        | none => none
      | none => none
    | _, _ => none
  | .bad => none

def wanted (τ : Nat → V) : Option (Nat × Bool) → Option Bool
  | none => some true
  | some (t, b) => match τ t with | .bool c => some (c == b) | .undef => some false | _ => none

def ins (call : CallF) (x : Ins) (s : St) : Option St :=
  match wanted s.τ x.g with
  | some true => (aop call s.τ s.H x.i).map fun p => ⟨put s.τ x.dst p.1, p.2⟩
  | some false => some ⟨put s.τ x.dst .undef, s.H⟩
  | none => none

def insL (call : CallF) : List Ins → St → Option St
  | [], s => some s
  | x :: xs, s => (ins call x s).bind (insL call xs)

/-- The same, with nothing of it to be written, and some blocks hidden. -/
def ro1 : Blk → Blk
  | .cells cs .ro => .cells cs .ro
  | .cells cs .ex => .cells cs .ro
  | .cells cs (.gr es) => .cells cs (.rg es)
  | .cells cs (.rg es) => .cells cs (.rg es)
  | _ => .dead
def prot (hide : List Nat) (H : Heap) : Heap := H.mapIdx fun k b => if k ∈ hide then .dead else ro1 b
def pcall (call : CallF) (hide : List Nat) : CallF := fun t args H =>
  (call t args (prot hide H)).map fun p => (p.1, H ++ p.2.drop H.length)

/-- What an operation lays that makes one block: the block, and its value at that block's number. -/
def newOf (τ : Nat → V) : I → Option (Blk × (Nat → V))
  | .alloc zs => some (.cells zs .ex, fun k => .ptr k 0)
  | .box n x => match (ev τ x).cells with | some cs => if cs.length = n then some (.cells cs .ex, fun k => .ptr k 0) else none | none => none
  | .bslice len size zs ps => (fillc zs (ps.map fun p => (p.1, size, ev τ p.2))).map fun cs => (.cells cs .ex, fun k => .sl k 0 len len)
  | .mkslice _ bytes zs l => match ev τ l with
    | .int _ n => if 0 ≤ n ∧ n ≤ lim ∧ n * bytes ≤ 2 ^ 40 then some (.cells ((List.replicate n.toNat zs).flatten) .ex, fun k => .sl k 0 n.toNat n.toNat) else none
    | _ => none
  | _ => none

def dins (call : CallF) (N : Nat) (d : DM × Ins) (s : St) : Option St :=
  match d.1 with
  | .plain => ins call d.2 s
  | .pcall hide => ins (pcall call (hide.map (N + ·))) d.2 s
  | .hole j => match wanted s.τ d.2.g with
    | some true => match newOf s.τ d.2.i with
      | some (b, mk) => match s.H[N + j]? with
        | some .dead => some ⟨put s.τ d.2.dst (mk (N + j)), s.H.set (N + j) b⟩
        | _ => none
      | none => none
    | some false => some ⟨put s.τ d.2.dst .undef, s.H⟩
    | none => none

def dinsL (call : CallF) (N : Nat) : List (DM × Ins) → St → Option St
  | [], s => some s
  | x :: xs, s => (dins call N x s).bind (dinsL call N xs)

def V.blk? : V → Option Nat
  | .ptr k _ | .sl k _ _ _ | .map k => some k
  | _ => none
def Chk.ok (N nh : Nat) (τ : Nat → V) : Chk → Bool
  | .ne x y => match (ev τ x).blk?, (ev τ y).blk? with | some a, some b => a != b | _, _ => true
  | .nh x j => match (ev τ x).blk? with | some a => a != N + j | none => true
  | .lt x => match (ev τ x).blk? with | some a => decide (a < N + nh) | none => true

def setps (τ : Nat → V) : List Nat → List V → (Nat → V)
  | p :: ps, v :: vs => setps (upd τ p v) ps vs
  | _, _ => τ

abbrev Out := Option (Ex × St)
def andThen (r : Out) (f : St → Out) : Out :=
  match r with
  | some (.normal, s) => f s
  | some (.exit i, s) => some (.exit i, s)
  | some (.ret, s) => some (.ret, s)
  | none => none
def unblk (id : Nat) (r : Out) : Out :=
  match r with
  | some (.exit i, s) => if i = id then some (.normal, s) else some (.exit i, s)
  | some (.normal, s) => some (.normal, s)
  | some (.ret, s) => some (.ret, s)
  | none => none

def iter : Nat → (St → Out) → St → Out
  | 0, _, _ => none
  | n + 1, f, s => andThen (f s) (iter n f)

def tgt : V → Option (Tgt × List V × List V)
  | .fn g a b => some (.f g, a, b)
  | _ => none

def afterRange (s : St) : Option (V × Heap) → Out
  | some (_, H') => match H'[s.H.length]? with
    | some (.lp _ _ _ _ .ready) => some (.normal, ⟨s.τ, H'.set s.H.length .dead⟩)
    | some (.lp _ _ _ _ (.done e)) => some (e, ⟨s.τ, H'.set s.H.length .dead⟩)
    | _ => none
  | none => none
def afterDraw (N nh : Nat) (chk : List Chk) : Option St → Out
  | some s' => if chk.all (Chk.ok N nh s'.τ) then some (.normal, s') else none
  | none => none

def exec (call : CallF) (n : Nat) : MC → St → Out
  | .skip, s => some (.normal, s)
  | .reg ops, s => (insL call ops s).map fun s' => (.normal, s')
  | .dreg nh ops chk, s =>
    afterDraw s.H.length nh chk (dinsL call s.H.length ops ⟨s.τ, s.H ++ List.replicate nh .dead⟩)
  | .seq a b, s => andThen (exec call n a s) (exec call n b)
  | .cond c a b, s => match ev s.τ c with
    | .bool t => cond t (exec call n a s) (exec call n b s)
    | _ => none
  | .block id a, s => unblk id (exec call n a s)
  | .loop a, s => iter n (exec call n a) s
  | .exit id, s => some (.exit id, s)
  | .ret, s => some (.ret, s)
  | .rangef f ps asg body, s =>
    match tgt (ev s.τ f) with
    | some (t, a, b) => afterRange s (call t (a ++ [.yld s.H.length] ++ b) (s.H ++ [.lp s.τ ps asg body .ready]))
    | none => none

inductive RV where
  | t (n : Nat)
  | c (n : Nat) (size : Nat) (agg : Bool)

structure FC where
  nargs : Nat
  res : List RV
  body : MC

def res1 (τ : Nat → V) (H : Heap) : RV → Option V
  | .t n => some (τ n)
  | .c n size agg => match τ n with
    | .ptr k o => if agg then (rdn H k o size).map .agg else rd H k o
    | _ => none
def resL (τ : Nat → V) (H : Heap) : List RV → Option (List V)
  | [] => some []
  | r :: rs => match res1 τ H r, resL τ H rs with | some v, some vs => some (v :: vs) | _, _ => none
def pack : List V → V
  | [v] => v
  | vs => .tup vs

def args0 (args : List V) : Nat → V := fun t => (args[t]?).getD .undef

/-- What the functions are: their code; or, of some, what they answer. -/
structure Env where
  C : Nat → Option FC
  S : Nat → Option (List V → Heap → Option (V × Heap))

def finish (fc : FC) : Out → Option (V × Heap)
  | some (.exit _, _) => none
  | some (_, s) => (resL s.τ s.H fc.res).map fun vs => (pack vs, s.H)
  | none => none

def endRound (k : Nat) : Out → Option (V × Heap)
  | some (e, s) => match s.H[k]? with
    | some (.lp τ ps asg body .busy) => some (.bool (decide (e = .normal)), s.H.set k (.lp τ ps asg body (if e = .normal then .ready else .done e)))
    | _ => none
  | none => none

def beginRound (k : Nat) (s : St) : Option St :=
  match s.H[k]? with
  | some (.lp τ ps asg body .ready) => some ⟨s.τ, s.H.set k (.lp τ ps asg body .busy)⟩
  | _ => none

/-- Behind the assignments to the loop's variables: the round begins. -/
def aBegin (k : Nat) (r : Out) (f : St → Out) : Out :=
  match r with
  | some (.normal, s) => match beginRound k s with
    | some s1 => f s1
    | none => none
  | _ => none

def callN (E : Env) : Nat → CallF
  | 0, _, _, _ => none
  | n + 1, .f g, args, H => match E.S g with
    | some h => h args H
    | none => match E.C g with
      | some fc => if args.length = fc.nargs then finish fc (exec (callN E n) n fc.body ⟨args0 args, H⟩) else none
      | none => none
  | n + 1, .y k, args, H => match H[k]? with
    | some (.lp τ ps asg body .ready) => if args.length = ps.length then
        endRound k (aBegin k (exec (callN E n) n asg ⟨setps τ ps args, H⟩) (exec (callN E n) n body))
        else none
    | _ => none

end Go.Ar
/- The abstract interpreter without rounds: the limit of the runs by rounds, and its equations. -/
set_option linter.unusedSimpArgs false
set_option linter.unusedVariables false
namespace Go.Ar

def LeC (c c' : CallF) : Prop := ∀ t a H r, c t a H = some r → c' t a H = some r

section mono
variable {c c' : CallF} (hc : LeC c c')
include hc

theorem aop_mono (τ : Nat → V) (H : Heap) (i : I) (r : V × Heap) (h : aop c τ H i = some r) : aop c' τ H i = some r := by
  cases i with
  | call f args =>
    simp only [aop] at h ⊢
    cases hf : ev τ f <;> simp only [hf] at h ⊢ <;> first | exact hc _ _ _ _ h | exact h
  | _ => exact h

theorem ins_mono (x : Ins) (s s' : St) (h : ins c x s = some s') : ins c' x s = some s' := by
  unfold ins at h ⊢
  cases hw : wanted s.τ x.g with
  | none => simp [hw] at h
  | some b =>
    cases b with
    | false => simpa [hw] using h
    | true =>
      simp only [hw] at h ⊢
      cases ha : aop c s.τ s.H x.i with
      | none => simp [ha] at h
      | some r => rw [aop_mono hc _ _ _ _ ha]; rwa [ha] at h

theorem insL_mono : ∀ (l : List Ins) (s s' : St), insL c l s = some s' → insL c' l s = some s'
  | [], _, _, h => h
  | x :: xs, s, s', h => by
    simp only [insL] at h ⊢
    cases hi : ins c x s with
    | none => simp [hi] at h
    | some s1 => rw [ins_mono hc _ _ _ hi]; rw [hi] at h; exact insL_mono xs s1 s' h

omit hc in
theorem pcall_mono (hc : LeC c c') (hide : List Nat) : LeC (pcall c hide) (pcall c' hide) := by
  intro t a H r h
  unfold pcall at h ⊢
  cases hx : c t a (prot hide H) with
  | none => simp [hx] at h
  | some q => rw [hc _ _ _ _ hx]; rwa [hx] at h

theorem dins_mono (N : Nat) (d : DM × Ins) (s s' : St) (h : dins c N d s = some s') : dins c' N d s = some s' := by
  unfold dins at h ⊢
  cases hd : d.1 with
  | plain => simp only [hd] at h ⊢; exact ins_mono hc _ _ _ h
  | hole j => simpa only [hd] using h
  | pcall hide => simp only [hd] at h ⊢; exact ins_mono (pcall_mono hc _) _ _ _ h

theorem dinsL_mono (N : Nat) : ∀ (l : List (DM × Ins)) (s s' : St), dinsL c N l s = some s' → dinsL c' N l s = some s'
  | [], _, _, h => h
  | x :: xs, s, s', h => by
    simp only [dinsL] at h ⊢
    cases hi : dins c N x s with
    | none => simp [hi] at h
    | some s1 => rw [dins_mono hc N _ _ _ hi]; rw [hi] at h; exact dinsL_mono N xs s1 s' h
end mono

theorem andThen_mono {r r' : Out} {f f' : St → Out} (hr : ∀ x, r = some x → r' = some x) (hf : ∀ s x, f s = some x → f' s = some x) (x : Ex × St)
    (h : andThen r f = some x) : andThen r' f' = some x := by
  unfold andThen at h ⊢
  split at h
  · rw [hr _ rfl]; exact hf _ _ h
  · rw [hr _ rfl]; exact h
  · rw [hr _ rfl]; exact h
  · cases h

theorem unblk_mono {r r' : Out} {id : Nat} (hr : ∀ x, r = some x → r' = some x) (x : Ex × St) (h : unblk id r = some x) : unblk id r' = some x := by
  cases r with
  | none => simp [unblk] at h
  | some y => rw [hr _ rfl]; exact h

theorem iter_mono {f f' : St → Out} (hf : ∀ s x, f s = some x → f' s = some x) : ∀ (n m : Nat) (s : St) (x : Ex × St), n ≤ m → iter n f s = some x → iter m f' s = some x
  | 0, _, _, _, _, h => by simp [iter] at h
  | n + 1, 0, _, _, hm, _ => by omega
  | n + 1, m + 1, s, x, hm, h => andThen_mono (hf s) (fun s' y => iter_mono hf n m s' y (by omega)) x h

theorem exec_mono {c c' : CallF} (hc : LeC c c') {n m : Nat} (hn : n ≤ m) : ∀ (a : MC) (s : St) (x : Ex × St), exec c n a s = some x → exec c' m a s = some x
  | .skip, s, x, h => h
  | .reg ops, s, x, h => by
    simp only [exec, Option.map_eq_some_iff] at h ⊢
    obtain ⟨s1, h1, h2⟩ := h
    exact ⟨s1, insL_mono hc _ _ _ h1, h2⟩
  | .dreg nh ops chk, s, x, h => by
    simp only [exec] at h ⊢
    cases hd : dinsL c s.H.length ops ⟨s.τ, s.H ++ List.replicate nh .dead⟩ with
    | none => simp [hd, afterDraw] at h
    | some s1 => rw [dinsL_mono hc _ _ _ _ hd]; rwa [hd] at h
  | .seq a b, s, x, h => andThen_mono (exec_mono hc hn a s) (exec_mono hc hn b) x h
  | .cond k a b, s, x, h => by
    simp only [exec] at h ⊢
    cases hk : ev s.τ k <;> simp only [hk] at h ⊢ <;> try exact h
    rename_i t
    cases t
    · exact exec_mono hc hn b s x h
    · exact exec_mono hc hn a s x h
  | .block id a, s, x, h => unblk_mono (exec_mono hc hn a s) x h
  | .loop a, s, x, h => iter_mono (exec_mono hc hn a) n m s x hn h
  | .exit _, _, _, h => h
  | .ret, _, _, h => h
  | .rangef f ps asg body, s, x, h => by
    simp only [exec] at h ⊢
    cases ht : tgt (ev s.τ f) with
    | none => simp [ht] at h
    | some q =>
      obtain ⟨t, a, b⟩ := q
      simp only [ht] at h ⊢
      cases hx : c t (a ++ [.yld s.H.length] ++ b) (s.H ++ [.lp s.τ ps asg body .ready]) with
      | none => rw [hx] at h; simp [afterRange] at h
      | some r => rw [hc _ _ _ _ hx]; rwa [hx] at h

theorem finish_mono {fc : FC} {r r' : Out} (hr : ∀ x, r = some x → r' = some x) (x : V × Heap) (h : finish fc r = some x) : finish fc r' = some x := by
  cases r with
  | none => simp [finish] at h
  | some y => rw [hr _ rfl]; exact h
theorem endRound_mono {k : Nat} {r r' : Out} (hr : ∀ x, r = some x → r' = some x) (x : V × Heap) (h : endRound k r = some x) : endRound k r' = some x := by
  cases r with
  | none => simp [endRound] at h
  | some y => rw [hr _ rfl]; exact h
theorem aBegin_mono {k : Nat} {r r' : Out} {f f' : St → Out} (hr : ∀ x, r = some x → r' = some x) (hf : ∀ s x, f s = some x → f' s = some x) (x : Ex × St)
    (h : aBegin k r f = some x) : aBegin k r' f' = some x := by
  unfold aBegin at h ⊢
  split at h
  · rw [hr _ rfl]
    split at h
    · rename_i hb; simp only [hb]; exact hf _ _ h
    · cases h
  · cases h

theorem callN_succ (E : Env) : ∀ n, LeC (callN E n) (callN E (n + 1))
  | 0 => fun t a H r h => by simp [callN] at h
  | n + 1 => fun t a H r h => by
    have ih := callN_succ E n
    have hx : ∀ a s x, exec (callN E n) n a s = some x → exec (callN E (n + 1)) (n + 1) a s = some x := exec_mono ih (by omega)
    cases t with
    | f g =>
      simp only [callN] at h
      show (match E.S g with
        | some h => h a H
        | none => match E.C g with
          | some fc => if a.length = fc.nargs then finish fc (exec (callN E (n + 1)) (n + 1) fc.body ⟨args0 a, H⟩) else none
          | none => none) = some r
      split
      · rename_i g' hg; simp only [hg] at h; exact h
      · rename_i hg; simp only [hg] at h
        split
        · rename_i fc hfc; simp only [hfc] at h
          split
          · rename_i hl; rw [if_pos hl] at h; exact finish_mono (hx _ _) _ h
          · rename_i hl; rw [if_neg hl] at h; exact h
        · rename_i hfc; simp only [hfc] at h; cases h
    | y k =>
      simp only [callN] at h
      show (match H[k]? with
        | some (.lp τ ps asg body .ready) => if a.length = ps.length then
            endRound k (aBegin k (exec (callN E (n + 1)) (n + 1) asg ⟨setps τ ps a, H⟩) (exec (callN E (n + 1)) (n + 1) body)) else none
        | _ => none) = some r
      split
      · rename_i hg; simp only [hg] at h
        split
        · rename_i hl; rw [if_pos hl] at h; exact endRound_mono (aBegin_mono (hx _ _) (hx _)) _ h
        · rename_i hl; rw [if_neg hl] at h; cases h
      · split at h
        · rename_i h1 _ _ _ _ _ h2; exact absurd h2 (h1 _ _ _ _)
        · cases h

theorem callN_le (E : Env) {n m : Nat} (h : n ≤ m) : LeC (callN E n) (callN E m) := by
  induction h with
  | refl => exact fun _ _ _ _ h => h
  | step _ ih => exact fun t a H r hr => callN_succ E _ t a H r (ih t a H r hr)

/-! ### The limit -/
open Classical in
noncomputable def limO {α : Type} (f : Nat → Option α) : Option α := if h : ∃ r, ∃ n, f n = some r then some (Classical.choose h) else none

theorem limO_iff {α : Type} {f : Nat → Option α} (hm : ∀ n m, n ≤ m → ∀ r, f n = some r → f m = some r) (r : α) : limO f = some r ↔ ∃ n, f n = some r := by
  unfold limO
  constructor
  · intro h
    split at h
    · rename_i hx
      have := Classical.choose_spec hx
      cases h
      exact this
    · cases h
  · rintro ⟨n, hn⟩
    have hx : ∃ r, ∃ n, f n = some r := ⟨r, n, hn⟩
    rw [dif_pos hx]
    obtain ⟨m, hm'⟩ := Classical.choose_spec hx
    have h1 := hm n (max n m) (by omega) _ hn
    have h2 := hm m (max n m) (by omega) _ hm'
    rw [h1] at h2
    exact h2.symm

noncomputable def callL (E : Env) : CallF := fun t a H => limO fun n => callN E n t a H
noncomputable def execL (E : Env) (c : MC) (s : St) : Out := limO fun n => exec (callN E n) n c s

theorem callL_iff {E : Env} {t : Tgt} {a : List V} {H : Heap} {r : V × Heap} : callL E t a H = some r ↔ ∃ n, callN E n t a H = some r :=
  limO_iff (fun _ _ h _ => callN_le E h t a H _) r
theorem execL_iff {E : Env} {c : MC} {s : St} {x : Ex × St} : execL E c s = some x ↔ ∃ n, exec (callN E n) n c s = some x :=
  limO_iff (fun _ _ h _ => exec_mono (callN_le E h) h c s _) x
theorem callN_leL (E : Env) (n : Nat) : LeC (callN E n) (callL E) := fun _ _ _ _ h => callL_iff.2 ⟨n, h⟩

theorem ext_iff {α : Type} {x y : Option α} (h : ∀ r, x = some r ↔ y = some r) : x = y := by
  cases x with
  | none => cases y with
    | none => rfl
    | some b => exact ((h b).2 rfl)
  | some a => exact ((h a).1 rfl).symm

section limits
variable {E : Env}

theorem aop_lim {τ : Nat → V} {H : Heap} {i : I} {r : V × Heap} : aop (callL E) τ H i = some r ↔ ∃ n, aop (callN E n) τ H i = some r := by
  constructor
  · intro h
    cases i with
    | call f args =>
      simp only [aop] at h ⊢
      cases hf : ev τ f <;> simp only [hf] at h ⊢ <;> first | exact callL_iff.1 h | (cases h)
    | _ => exact ⟨0, h⟩
  · rintro ⟨n, h⟩; exact aop_mono (callN_leL E n) _ _ _ _ h

theorem aop_plim {hide : List Nat} {τ : Nat → V} {H : Heap} {i : I} {r : V × Heap} : aop (pcall (callL E) hide) τ H i = some r ↔ ∃ n, aop (pcall (callN E n) hide) τ H i = some r := by
  constructor
  · intro h
    cases i with
    | call f args =>
      simp only [aop] at h ⊢
      cases hf : ev τ f <;> simp only [hf] at h ⊢ <;> try (cases h; done)
      all_goals
        simp only [pcall, Option.map_eq_some_iff] at h ⊢
        obtain ⟨q, h1, h2⟩ := h
        obtain ⟨n, h1⟩ := callL_iff.1 h1
        exact ⟨n, q, h1, h2⟩
    | _ => exact ⟨0, h⟩
  · rintro ⟨n, h⟩; exact aop_mono (pcall_mono (callN_leL E n) _) _ _ _ _ h

theorem ins_lim {x : Ins} {s s' : St} : ins (callL E) x s = some s' ↔ ∃ n, ins (callN E n) x s = some s' := by
  constructor
  · intro h
    unfold ins at h ⊢
    cases hw : wanted s.τ x.g with
    | none => simp [hw] at h
    | some b =>
      cases b with
      | false => exact ⟨0, by simpa [hw] using h⟩
      | true =>
        simp only [hw, Option.map_eq_some_iff] at h ⊢
        obtain ⟨q, h1, h2⟩ := h
        obtain ⟨n, h1⟩ := aop_lim.1 h1
        exact ⟨n, q, h1, h2⟩
  · rintro ⟨n, h⟩; exact ins_mono (callN_leL E n) _ _ _ h
theorem ins_plim {hide : List Nat} {x : Ins} {s s' : St} : ins (pcall (callL E) hide) x s = some s' ↔ ∃ n, ins (pcall (callN E n) hide) x s = some s' := by
  constructor
  · intro h
    unfold ins at h ⊢
    cases hw : wanted s.τ x.g with
    | none => simp [hw] at h
    | some b =>
      cases b with
      | false => exact ⟨0, by simpa [hw] using h⟩
      | true =>
        simp only [hw, Option.map_eq_some_iff] at h ⊢
        obtain ⟨q, h1, h2⟩ := h
        obtain ⟨n, h1⟩ := aop_plim.1 h1
        exact ⟨n, q, h1, h2⟩
  · rintro ⟨n, h⟩; exact ins_mono (pcall_mono (callN_leL E n) _) _ _ _ h

theorem insL_lim : ∀ {l : List Ins} {s s' : St}, insL (callL E) l s = some s' ↔ ∃ n, insL (callN E n) l s = some s'
  | [], s, s' => ⟨fun h => ⟨0, h⟩, fun ⟨_, h⟩ => h⟩
  | x :: xs, s, s' => by
    constructor
    · intro h
      simp only [insL, Option.bind_eq_some_iff] at h ⊢
      obtain ⟨s1, h1, h2⟩ := h
      obtain ⟨n, h1⟩ := ins_lim.1 h1
      obtain ⟨m, h2⟩ := insL_lim.1 h2
      exact ⟨max n m, s1, ins_mono (callN_le E (by omega)) _ _ _ h1, insL_mono (callN_le E (by omega)) _ _ _ h2⟩
    · rintro ⟨n, h⟩; exact insL_mono (callN_leL E n) _ _ _ h

theorem dins_lim {N : Nat} {d : DM × Ins} {s s' : St} : dins (callL E) N d s = some s' ↔ ∃ n, dins (callN E n) N d s = some s' := by
  constructor
  · intro h
    unfold dins at h ⊢
    cases hd : d.1 with
    | plain => simp only [hd] at h ⊢; exact ins_lim.1 h
    | hole j => exact ⟨0, by simpa only [hd] using h⟩
    | pcall hide => simp only [hd] at h ⊢; exact ins_plim.1 h
  · rintro ⟨n, h⟩; exact dins_mono (callN_leL E n) _ _ _ _ h
theorem dinsL_lim {N : Nat} : ∀ {l : List (DM × Ins)} {s s' : St}, dinsL (callL E) N l s = some s' ↔ ∃ n, dinsL (callN E n) N l s = some s'
  | [], s, s' => ⟨fun h => ⟨0, h⟩, fun ⟨_, h⟩ => h⟩
  | x :: xs, s, s' => by
    constructor
    · intro h
      simp only [dinsL, Option.bind_eq_some_iff] at h ⊢
      obtain ⟨s1, h1, h2⟩ := h
      obtain ⟨n, h1⟩ := dins_lim.1 h1
      obtain ⟨m, h2⟩ := dinsL_lim.1 h2
      exact ⟨max n m, s1, dins_mono (callN_le E (by omega)) _ _ _ _ h1, dinsL_mono (callN_le E (by omega)) _ _ _ _ h2⟩
    · rintro ⟨n, h⟩; exact dinsL_mono (callN_leL E n) _ _ _ _ h

theorem andThen_iff {r : Out} {f : St → Out} {x : Ex × St} : andThen r f = some x ↔ (∃ s, r = some (.normal, s) ∧ f s = some x) ∨ (r = some x ∧ x.1 ≠ .normal) := by
  unfold andThen
  split
  · constructor
    · exact fun h => .inl ⟨_, rfl, h⟩
    · rintro (⟨s, h, h'⟩ | ⟨h, h'⟩)
      · cases h; exact h'
      · cases h; exact absurd rfl h'
  · constructor
    · intro h; cases h; exact .inr ⟨rfl, by simp⟩
    · rintro (⟨s, h, h'⟩ | ⟨h, h'⟩)
      · cases h
      · exact h
  · constructor
    · intro h; cases h; exact .inr ⟨rfl, by simp⟩
    · rintro (⟨s, h, h'⟩ | ⟨h, h'⟩)
      · cases h
      · exact h
  · simp

theorem execL_skip {s : St} : execL E .skip s = some (.normal, s) := execL_iff.2 ⟨0, rfl⟩
theorem execL_exit {id : Nat} {s : St} : execL E (.exit id) s = some (.exit id, s) := execL_iff.2 ⟨0, rfl⟩
theorem execL_ret {s : St} : execL E .ret s = some (.ret, s) := execL_iff.2 ⟨0, rfl⟩

theorem execL_reg {ops : List Ins} {s : St} : execL E (.reg ops) s = (insL (callL E) ops s).map fun s' => (Ex.normal, s') := by
  refine ext_iff fun r => ?_
  rw [execL_iff]
  simp only [exec, Option.map_eq_some_iff, insL_lim]
  constructor
  · rintro ⟨n, s1, h1, h2⟩; exact ⟨s1, ⟨n, h1⟩, h2⟩
  · rintro ⟨s1, ⟨n, h1⟩, h2⟩; exact ⟨n, s1, h1, h2⟩

theorem execL_dreg {nh : Nat} {ops : List (DM × Ins)} {chk : List Chk} {s : St} :
    execL E (.dreg nh ops chk) s = afterDraw s.H.length nh chk (dinsL (callL E) s.H.length ops ⟨s.τ, s.H ++ List.replicate nh .dead⟩) := by
  refine ext_iff fun r => ?_
  rw [execL_iff]
  simp only [exec]
  have key : ∀ (o : Option St), afterDraw s.H.length nh chk o = some r ↔ ∃ s1, o = some s1 ∧ afterDraw s.H.length nh chk (some s1) = some r := by
    intro o; cases o <;> simp [afterDraw]
  simp only [key (dinsL _ _ _ _), dinsL_lim]
  constructor
  · rintro ⟨n, s1, h1, h2⟩; exact ⟨s1, ⟨n, h1⟩, h2⟩
  · rintro ⟨s1, ⟨n, h1⟩, h2⟩; exact ⟨n, s1, h1, h2⟩

theorem exec_up {n m : Nat} (h : n ≤ m) {a : MC} {s : St} {x : Ex × St} (hx : exec (callN E n) n a s = some x) : exec (callN E m) m a s = some x := exec_mono (callN_le E h) h a s x hx

theorem execL_seq {a b : MC} {s : St} : execL E (.seq a b) s = andThen (execL E a s) (execL E b) := by
  refine ext_iff fun r => ?_
  rw [execL_iff, andThen_iff]
  simp only [exec, andThen_iff, execL_iff]
  constructor
  · rintro ⟨n, (⟨s1, h1, h2⟩ | ⟨h1, h2⟩)⟩
    · exact .inl ⟨s1, ⟨n, h1⟩, ⟨n, h2⟩⟩
    · exact .inr ⟨⟨n, h1⟩, h2⟩
  · rintro (⟨s1, ⟨n, h1⟩, ⟨m, h2⟩⟩ | ⟨⟨n, h1⟩, h2⟩)
    · exact ⟨max n m, .inl ⟨s1, exec_up (by omega) h1, exec_up (by omega) h2⟩⟩
    · exact ⟨n, .inr ⟨h1, h2⟩⟩

theorem execL_cond {c : X} {a b : MC} {s : St} {t : Bool} (hc : ev s.τ c = .bool t) : execL E (.cond c a b) s = cond t (execL E a s) (execL E b s) := by
  refine ext_iff fun r => ?_
  rw [execL_iff]
  cases t <;> simp only [exec, hc, cond_true, cond_false] <;> exact execL_iff.symm

theorem execL_block {id : Nat} {a : MC} {s : St} : execL E (.block id a) s = unblk id (execL E a s) := by
  refine ext_iff fun r => ?_
  rw [execL_iff]
  simp only [exec]
  have key : ∀ (o : Out), unblk id o = some r ↔ ∃ x, o = some x ∧ unblk id (some x) = some r := by
    intro o; cases o <;> simp [unblk]
  simp only [key (exec _ _ _ _), key (execL _ _ _), execL_iff]
  constructor
  · rintro ⟨n, x, h1, h2⟩; exact ⟨x, ⟨n, h1⟩, h2⟩
  · rintro ⟨x, ⟨n, h1⟩, h2⟩; exact ⟨n, x, h1, h2⟩

theorem execL_loop {a : MC} {s : St} : execL E (.loop a) s = andThen (execL E a s) (execL E (.loop a)) := by
  refine ext_iff fun r => ?_
  rw [execL_iff, andThen_iff]
  simp only [execL_iff, exec]
  constructor
  · rintro ⟨n, h⟩
    cases n with
    | zero => simp [iter] at h
    | succ n =>
      simp only [iter, andThen_iff] at h
      rcases h with ⟨s1, h1, h2⟩ | ⟨h1, h2⟩
      · exact .inl ⟨s1, ⟨_, h1⟩, ⟨n + 1, iter_mono (fun _ _ h => h) n (n + 1) _ _ (by omega) h2⟩⟩
      · exact .inr ⟨⟨_, h1⟩, h2⟩
  · rintro (⟨s1, ⟨n, h1⟩, ⟨m, h2⟩⟩ | ⟨⟨n, h1⟩, h2⟩)
    · refine ⟨max n m + 1, ?_⟩
      simp only [iter, andThen_iff]
      exact .inl ⟨s1, exec_up (by omega) h1, iter_mono (exec_mono (callN_le E (by omega)) (by omega) a) _ _ _ _ (by omega) h2⟩
    · refine ⟨n + 1, ?_⟩
      simp only [iter, andThen_iff]
      exact .inr ⟨exec_up (by omega) h1, h2⟩

theorem execL_rangef {f : X} {ps : List Nat} {asg body : MC} {s : St} {t : Tgt} {a b : List V} (hf : tgt (ev s.τ f) = some (t, a, b)) :
    execL E (.rangef f ps asg body) s = afterRange s (callL E t (a ++ [.yld s.H.length] ++ b) (s.H ++ [.lp s.τ ps asg body .ready])) := by
  refine ext_iff fun r => ?_
  rw [execL_iff]
  simp only [exec, hf]
  have key : ∀ (o : Option (V × Heap)), afterRange s o = some r ↔ ∃ x, o = some x ∧ afterRange s (some x) = some r := by
    intro o; cases o <;> simp [afterRange]
  simp only [key (callN _ _ _ _ _), key (callL _ _ _ _), callL_iff]
  constructor
  · rintro ⟨n, x, h1, h2⟩; exact ⟨x, ⟨n, h1⟩, h2⟩
  · rintro ⟨x, ⟨n, h1⟩, h2⟩; exact ⟨n, x, h1, h2⟩

theorem finish_iff {fc : FC} {o : Out} {r : V × Heap} : finish fc o = some r ↔ ∃ x, o = some x ∧ finish fc (some x) = some r := by cases o <;> simp [finish]

theorem callL_f {g : Nat} {fc : FC} (hS : E.S g = none) (hC : E.C g = some fc) {args : List V} (hl : args.length = fc.nargs) {H : Heap} :
    callL E (.f g) args H = finish fc (execL E fc.body ⟨args0 args, H⟩) := by
  refine ext_iff fun r => ?_
  rw [callL_iff, finish_iff]
  simp only [execL_iff]
  constructor
  · rintro ⟨n, h⟩
    cases n with
    | zero => simp [callN] at h
    | succ n =>
      simp only [callN, hS, hC, if_pos hl] at h
      obtain ⟨x, h1, h2⟩ := finish_iff.1 h
      exact ⟨x, ⟨n, h1⟩, h2⟩
  · rintro ⟨x, ⟨n, h1⟩, h2⟩
    refine ⟨n + 1, ?_⟩
    simp only [callN, hS, hC, if_pos hl]
    exact finish_iff.2 ⟨x, h1, h2⟩

theorem callL_S {g : Nat} {h : List V → Heap → Option (V × Heap)} (hS : E.S g = some h) {args : List V} {H : Heap} : callL E (.f g) args H = h args H := by
  refine ext_iff fun r => ?_
  rw [callL_iff]
  constructor
  · rintro ⟨n, h'⟩
    cases n with
    | zero => simp [callN] at h'
    | succ n => simpa only [callN, hS] using h'
  · intro h'; exact ⟨1, by simpa only [callN, hS] using h'⟩

theorem aBegin_iff {k : Nat} {o : Out} {f : St → Out} {x : Ex × St} : aBegin k o f = some x ↔ ∃ s s1, o = some (.normal, s) ∧ beginRound k s = some s1 ∧ f s1 = some x := by
  unfold aBegin
  split
  · split
    · rename_i hb
      constructor
      · exact fun h => ⟨_, _, rfl, hb, h⟩
      · rintro ⟨s, s1, h1, h2, h3⟩; cases h1; rw [hb] at h2; cases h2; exact h3
    · rename_i hb
      constructor
      · intro h; cases h
      · rintro ⟨s, s1, h1, h2, h3⟩; cases h1; rw [hb] at h2; cases h2
  · rename_i hn
    constructor
    · intro h; cases h
    · rintro ⟨s, s1, h1, h2, h3⟩; exact absurd h1 (hn s)
theorem endRound_iff {k : Nat} {o : Out} {r : V × Heap} : endRound k o = some r ↔ ∃ x, o = some x ∧ endRound k (some x) = some r := by cases o <;> simp [endRound]

theorem callL_y {k : Nat} {H : Heap} {τ : Nat → V} {ps : List Nat} {asg body : MC} (hk : H[k]? = some (.lp τ ps asg body .ready)) {args : List V} (hl : args.length = ps.length) :
    callL E (.y k) args H = endRound k (aBegin k (execL E asg ⟨setps τ ps args, H⟩) (execL E body)) := by
  refine ext_iff fun r => ?_
  rw [callL_iff, endRound_iff]
  simp only [aBegin_iff, execL_iff]
  constructor
  · rintro ⟨n, h⟩
    cases n with
    | zero => simp [callN] at h
    | succ n =>
      simp only [callN, hk, if_pos hl] at h
      obtain ⟨x, h1, h2⟩ := endRound_iff.1 h
      obtain ⟨s, s1, h3, h4, h5⟩ := aBegin_iff.1 h1
      exact ⟨x, ⟨s, s1, ⟨n, h3⟩, h4, ⟨n, h5⟩⟩, h2⟩
  · rintro ⟨x, ⟨s, s1, ⟨n, h3⟩, h4, ⟨m, h5⟩⟩, h2⟩
    refine ⟨max n m + 1, ?_⟩
    simp only [callN, hk, if_pos hl]
    exact endRound_iff.2 ⟨x, aBegin_iff.2 ⟨s, s1, exec_up (by omega) h3, h4, exec_up (by omega) h5⟩, h2⟩
end limits
end Go.Ar
/- From the loaded code to the abstract one: the compiler (a plain function, run by the kernel), with the look at regions that draw their order. -/
set_option linter.unusedSimpArgs false
set_option linter.unusedVariables false
namespace Go.Ar

/-- A value that one cell holds, as the abstract run has it. -/
def absS : Value → V
  | .bool b => .bool b
  | .int k n => .int k n
  | .pointer none => .nilp
  | .slice none 0 0 => .nils
  | .map none => .nilm
  | .nilFunc => .nilf
  | _ => .undef
def absV : Value → V
  | .agg cs => .agg (cs.toList.map absS)
  | v => absS v
def cX : Operand → X
  | .tmp t => .t t
  | .const v => .c (absV v)
  | .global _ => .c .undef
  | .func f => .c (.fn f [] [])

variable (P : Program)
def tsize (t : TypeId) : Option Nat := (P.info? t).map (·.size)
def tzero (t : TypeId) : Option (List V) :=
  match P.info? t with
  | some i => match i.zero with
    | some z => if z.cells.size = i.size ∧ (z.cells.toList.map absS).all V.scalar then some (z.cells.toList.map absS) else none
    | none => none
  | none => none
def tagg (t : TypeId) : Option Bool :=
  match P.underlying t with
  | some (.struct _) | some (.array _ _) => some true
  | some _ => some false
  | none => none
def telem (t : TypeId) : Option TypeId := match P.underlying t with | some (.slice e) => some e | _ => none

/-- A struct's fields, each a whole number or a bool of one cell. -/
def flat1 (f : Field × Nat) : Option Bool :=
  if f.1.offset = f.2 ∧ f.1.name ≠ "_" then
    match P.underlying f.1.type with
    | some (.int _) => some true
    | some .bool => some false
    | _ => none
  else none
def flat (t : TypeId) : Option (List Bool) :=
  match P.underlying t with
  | some (.struct fs) => if P.stoodInHeld t = false ∧ P.eqGuardType P.depth t = false then fs.toList.zipIdx.mapM (flat1 P) else none
  | _ => none
/-- A key: a whole number; or a pair of such. -/
def keyOk (t : TypeId) : Option KK :=
  match P.underlying t with
  | some (.int _) => some .int
  | some (.array 2 e) => if tsize P e = some 1 then (match P.underlying e with | some (.int _) => some .pair | _ => none) else none
  | _ => none

def optB {α : Type} (o : Option α) (f : α → I) : I := match o with | some a => f a | none => .bad

def eqOp (t : TypeId) (ne : Bool) (x y : X) : I :=
  match P.underlying t with
  | some .bool => .eq ne .bool x y
  | some (.pointer _) => .eq ne .ptr x y
  | some (.slice _) => .eq ne .sl x y
  | some (.func _ _ _) => .eq ne .fn x y
  | some (.struct _) => optB (flat P t) fun ks => .eq ne (.agg ks) x y
  | _ => .bad

def lk (t : TypeId) : Option V :=
  match P.info? t with
  | some i => match i.zero with
    | some v => if (absS v).scalar then some (absS v) else none
    | none => none
  | none => none

def compOp (o : Oper) : I :=
  match o.op with
  | .move x | .assign x => .mv (cX x)
  | .pick c a b => .pick (cX c) (cX a) (cX b)
  | .alloc t => optB (tzero P t) .alloc
  | .box t x => optB (tsize P t) fun n => .box n (cX x)
  | .build t parts => optB (tzero P t) fun zs =>
    match P.underlying t with
    | some (.struct fields) => if fields.toList.all fun f => (tsize P f.type).isSome then optB (parts.toList.mapM fun p => match fields[p.1]? with | some f => (tsize P f.type).map fun n => (f.offset, n, cX p.2) | none => none) (fun ps => .build zs ps) else .bad
    | some (.array _ e) => optB (tsize P e) fun n => .build zs (parts.toList.map fun p => (p.1 * n, n, cX p.2))
    | _ => .bad
  | .buildSlice t len parts => optB (telem P t) fun e => optB (tsize P e) fun n => optB (tzero P e) fun zs =>
      if len * n ≤ 2 ^ 24 ∧ 0 < n then .bslice len n ((List.replicate len zs).flatten) (parts.toList.map fun p => (p.1 * n, cX p.2)) else .bad
  | .load t x => optB (tsize P t) fun n => optB (tagg P t) fun g => .load n g (cX x)
  | .store t x v => optB (tsize P t) fun n => .store n (cX x) (cX v)
  | .nilCheck x => .nilc (cX x)
  | .binOp op t x y _ =>
    match P.underlying t with
    | some (.int _) => .bin op (cX x) (cX y)
    | _ => match op with
      | .eql => eqOp P t false (cX x) (cX y)
      | .neq => eqOp P t true (cX x) (cX y)
      | _ => .bad
  | .unOp .neg _ x => .neg (cX x)
  | .unOp .not _ x => .not (cX x)
  | .convert src dst x => match P.underlying src, P.underlying dst with
    | some (.int _), some (.int k) => .conv k (cX x)
    | _, _ => .bad
  | .makeFunc (.func f) a b => .mkfn f (a.toList.map cX) (b.toList.map cX)
  | .makeMap _ none => .mkmap
  | .makeSlice t (.tmp l) (.tmp c) => if l = c then optB (telem P t) fun e => match P.info? e with
      | some i => if 0 < i.size then optB (tzero P e) fun zs => .mkslice i.size i.bytes zs (.t l) else .bad
      | none => .bad
    else .bad
  | .slice t x lo hi none => optB (telem P t) fun e => optB (tsize P e) fun n => .slc n (cX x) (lo.map cX) (hi.map cX)
  | .fieldAddr t x f => match P.underlying t with
    | some (.struct fs) => match fs[f]? with
      | some fd => match tsize P fd.type with
        | some n => if n = 0 then .bad else .fadr fd.offset (cX x)
        | none => .bad
      | none => .bad
    | _ => .bad
  | .field t x f => match P.underlying t with
    | some (.struct fs) => match fs[f]? with
      | some fd => optB (tsize P fd.type) fun n => optB (tagg P fd.type) fun g => .fld fd.offset n g (cX x)
      | none => .bad
    | _ => .bad
  | .indexAddr t x i => optB (telem P t) fun e => optB (tsize P e) fun n => .iadr n (cX x) (cX i)
  | .index t x i => match P.underlying t with
    | some (.array len e) => optB (tsize P e) fun n => optB (tagg P e) fun g => .idx len n g (cX x) (cX i)
    | _ => .bad
  | .lookup t m k ok => match P.underlying t with
    | some (.map kt et) => optB (keyOk P kt) fun kk => optB (lk P et) fun z => .lookup kk z ok (cX m) (cX k)
    | _ => .bad
  | .mapUpdate t m k v => match P.underlying t with
    | some (.map kt _) => optB (keyOk P kt) fun kk => .mapupd kk (cX m) (cX k) (cX v)
    | _ => .bad
  | .mapEntry t m k => match P.underlying t with
    | some (.map kt et) => optB (keyOk P kt) fun kk => optB (lk P et) fun z => .mapent kk z (cX m) (cX k)
    | _ => .bad
  | .entryStore _ m s v => .entst (cX m) (cX s) (cX v)
  | .extract x j => .ext (cX x) j
  | .call { callee := .value f, args, .. } => .call (cX f) (args.toList.map cX)
  | .call { callee := .builtin b, args, argTypes } =>
    match b, args.toList, argTypes.toList with
    | .len, [x], [t] => match P.underlying t with | some (.slice _) => .len (cX x) | some (.map _ _) => .mlen (cX x) | _ => .bad
    | .append, [x, y], [t, u] => optB (telem P t) fun e => match P.info? e, tzero P e with
      | some i, some _ => if 0 < i.size ∧ 0 < i.bytes ∧ u = t then .append i.size i.bytes (cX x) (cX y) else .bad
      | _, _ => .bad
    | .copy, [x, y], [t, _] => optB (telem P t) fun e => optB (tsize P e) fun n => .copy n (cX x) (cX y)
    | .min, [x, y], _ => .mn (cX x) (cX y)
    | .max, [x, y], _ => .mx (cX x) (cX y)
    | .clear, [x], [t] => optB (telem P t) fun e => optB (tsize P e) fun n => optB (tzero P e) fun zs => if 0 < n then .clear n zs (cX x) else .bad
    | _, _, _ => .bad
  | _ => .bad

def noCall : I → I
  | .call _ _ => .bad
  | i => i
def noNew : I → I
  | .alloc _ | .box _ _ | .bslice _ _ _ _ | .mkslice _ _ _ _ => .bad
  | i => i
def newOp (o : Oper) : Bool :=
  match o.op with
  | .alloc _ | .box _ _ | .buildSlice _ _ _ | .makeSlice _ _ _ => true
  | _ => false
def compOpC (o : Oper) : I :=
  match o.op with
  | .call c => match c.callee with
    | .value f => .call (cX f) (c.args.toList.map cX)
    | _ => noNew (noCall (compOp P o))
  | _ => if newOp o then noCall (compOp P o) else noNew (noCall (compOp P o))

/-- The guard, by the slot of the operation that it asks. -/
def compG (ops : List Oper) (o : Oper) : Option (Option (Nat × Bool)) :=
  match o.guard with
  | none => some none
  | some (j, b) => match ops[j]? with
    | some q => q.dst.map fun d => some (d, b)
    | none => none
/-- (Every slot that is written lies among the first nt.) -/
def compIns (nt : Nat) (ops : List Oper) (o : Oper) : Option Ins :=
  if (match o.dst with | some d => decide (d < nt) | none => true) then (compG ops o).map fun g => ⟨o.dst, compOpC P o, g⟩ else none

/-! ### The slots that an operation looks at -/
def X.tmps : X → List Nat
  | .t n => [n]
  | .c _ => []
def oX : Option X → List Nat
  | some x => x.tmps
  | none => []
def I.tmps : I → List Nat
  | .mv x | .box _ x | .load _ _ x | .nilc x | .neg x | .not x | .conv _ x | .mkslice _ _ _ x | .fadr _ x | .fld _ _ _ x | .ext x _ | .len x | .mlen x | .clear _ _ x => x.tmps
  | .pick a b c | .mapupd _ a b c | .entst a b c => a.tmps ++ b.tmps ++ c.tmps
  | .alloc _ | .mkmap | .bad => []
  | .build _ ps => ps.flatMap fun p => p.2.2.tmps
  | .bslice _ _ _ ps => ps.flatMap fun p => p.2.tmps
  | .store _ x v | .bin _ x v | .eq _ _ x v | .iadr _ x v | .idx _ _ _ x v | .append _ _ x v | .copy _ x v | .mn x v | .mx x v | .lookup _ _ _ x v | .mapent _ _ x v => x.tmps ++ v.tmps
  | .mkfn _ a b => (a ++ b).flatMap X.tmps
  | .slc _ x lo hi => x.tmps ++ oX lo ++ oX hi
  | .call f args => f.tmps ++ args.flatMap X.tmps
def Ins.reads (x : Ins) : List Nat := (match x.g with | some (t, _) => [t] | none => []) ++ x.i.tmps
def Ins.apart (x y : Ins) : Bool :=
  (match x.dst with | some d => !(y.reads.contains d) && !(y.dst == some d) | none => true) && (match y.dst with | some d => !(x.reads.contains d) | none => true)

/-- What an operation does to memory. -/
inductive Cl where
  | pure
  | load (x : X)
  | new
  | store (x : X)
  | app (x y : X)
  | call
  | ment (m : X)
  | other
def I.cl : I → Cl
  | .mv _ | .pick _ _ _ | .build _ _ | .nilc _ | .bin _ _ _ | .eq _ _ _ _ | .neg _ | .not _ | .conv _ _ | .mkfn _ _ _ | .fadr _ _ | .fld _ _ _ _ | .iadr _ _ _ | .idx _ _ _ _ _ | .ext _ _ | .mn _ _ | .mx _ _ | .len _ => .pure
  | .load _ _ x | .slc _ x _ _ | .mlen x => .load x
  | .lookup _ _ _ m _ => .load m
  | .alloc _ | .box _ _ | .bslice _ _ _ _ | .mkslice _ _ _ _ => .new
  | .store _ x _ => .store x
  | .append _ _ x y => .app x y
  | .call _ _ => .call
  | .mapent _ _ m _ => .ment m
  | _ => .other

def isNew : Cl → Bool | .new => true | _ => false
/-- Does a call stand beside such, in an open order? -/
def loadsOrNew : Cl → Bool | .new | .load _ => true | _ => false

/-- The kind of an operation of a region that draws its order. -/
inductive Kd where
  | pure
  | load (x : X)
  | hole (j : Nat)
  | store (x : X)
  | app (x y : X)
  | pc (hide : List Nat)
  | ment (m : X)
  | other
def kd (d : DM × Ins) : Kd :=
  match d.1, d.2.i.cl with
  | .plain, .pure => .pure
  | .plain, .load x => .load x
  | .hole j, .new => .hole j
  | .plain, .store x => .store x
  | .plain, .app x y => .app x y
  | .pcall hide, .call => .pc hide
  | .plain, .ment m => .ment m
  | _, _ => .other
def Kd.isPure : Kd → Bool | .pure => true | _ => false

/-- May two operations, the first ahead of the second in the text, change places; and what is to be asked. -/
def pairK (x y : Kd) (sameMap : Bool) : Option (List Chk) :=
  match x, y with
  | .pure, _ | _, .pure => some []
  | .load _, .load _ => some []
  | .load a, .hole j => some [.nh a j]
  | .load a, .store b => some [.ne a b]
  | .load a, .app b _ => some [.ne a b]
  | .load _, .pc _ => some []
  | .load _, .ment _ => if sameMap then some [] else none
  | .hole j, .load b => some [.nh b j]
  | .hole i, .hole j => if i = j then none else some []
  | .hole j, .store b => some [.nh b j]
  | .app a _, .load b => some [.ne a b, .lt b]
  | .app a b, .hole j => some [.nh a j, .nh b j]
  | .pc _, .load b => some [.lt b]
  | .pc hide, .hole j => if hide.contains j then some [] else none
  | _, _ => none

/-- The bits of all that stand ahead of each. -/
def befs (ops : List Oper) : List Nat :=
  ops.foldl (fun acc o => acc ++ [o.after.toList.foldl (fun s e => if Region.binds .any e then s ||| 2 ^ e.on ||| acc.getD e.on 0 else s) 0]) []

def sameZero : I → I → Bool
  | .lookup kk z false (.t a) (.t k), .mapent kk' z' (.t b) (.t k') => a == b && k == k' && decide (kk = kk') && (match z, z' with | .int k n, .int k' m => k == k' && n == m | _, _ => false)
  | _, _ => false

def nums : List Ins → Nat → List Nat
  | [], _ => []
  | x :: xs, n => n :: nums xs (if isNew x.i.cl then n + 1 else n)

def unord (bs : List Nat) (i j : Nat) : Bool := !((bs.getD j 0).testBit i) && !((bs.getD i 0).testBit j)

/-- How each operation of a region that draws its order is to be made. -/
def modes (bs : List Nat) (is : List Ins) : List (DM × Ins) :=
  let cn : List (Ins × Nat) := is.zip (nums is 0)
  let mode (j : Nat) (x : Ins × Nat) : DM :=
    match x.1.i.cl with
    | .new => .hole x.2
    | .call => if cn.zipIdx.any fun y => y.2 != j && unord bs y.2 j && loadsOrNew y.1.1.i.cl then .pcall ((cn.zipIdx.filter fun y => isNew y.1.1.i.cl && unord bs y.2 j).map fun y => y.1.2) else .plain
    | _ => .plain
  cn.zipIdx.map fun x => (mode x.2 x.1, x.1.1)

/-- Of two operations, x ahead of y in the text: y writes nothing that x looks at (unless x looks at no memory); and, if their order is open: they may change places. -/
def nwB (x y : DM × Ins) : Bool := (kd x).isPure || (match y.2.dst with | some d => !(x.2.reads.contains d) | none => true)
def holeNe (x y : DM × Ins) : Bool := match x.1, y.1 with | .hole i, .hole j => i != j | _, _ => true
def pairOk (bs : List Nat) (x y : (DM × Ins) × Nat) : Option (List Chk) :=
  if nwB x.1 y.1 && holeNe x.1 y.1 then
    if (bs.getD y.2 0).testBit x.2 then some []
    else if x.1.2.apart y.1.2 then pairK (kd x.1) (kd y.1) (sameZero x.1.2.i y.1.2.i) else none
  else none
def selfOk (x : DM × Ins) : Bool := nwB x x
/-- What one operation asks, of all that stand behind it. -/
def rowOk (bs : List Nat) (x : (DM × Ins) × Nat) : List ((DM × Ins) × Nat) → Option (List Chk)
  | [] => some []
  | y :: ys => match pairOk bs x y, rowOk bs x ys with | some a, some b => some (a ++ b) | _, _ => none
def allOk (bs : List Nat) : List ((DM × Ins) × Nat) → Option (List Chk)
  | [] => some []
  | x :: xs => if selfOk x.1 then (match rowOk bs x xs, allOk bs xs with | some a, some b => some (a ++ b) | _, _ => none) else none

def holes : List (DM × Ins) → Nat
  | [] => 0
  | (.hole j, _) :: xs => max (j + 1) (holes xs)
  | _ :: xs => holes xs

def compDraw (nt : Nat) (ops : List Oper) : Option MC :=
  match ops.mapM (compIns P nt ops) with
  | none => none
  | some is =>
    let bs := befs ops
    let dl := modes bs is
    if (ops.zipIdx.all fun o => o.1.after.toList.all fun e => !Region.binds .any e || decide (e.on < o.2)) then
      (allOk bs dl.zipIdx).map fun cs => .dreg (holes dl) dl cs
    else none

def noR : MC → Bool
  | .skip | .reg _ | .dreg _ _ _ | .exit _ | .ret => true
  | .seq a b | .cond _ a b => noR a && noR b
  | .block _ a | .loop a => noR a
  | .rangef _ _ _ _ => false

def comp (nt : Nat) : Code → Option MC
  | .skip => some .skip
  | .region _ ops draw => if draw then compDraw P nt ops.toList else (ops.toList.mapM (compIns P nt ops.toList)).map .reg
  | .seq a b => match comp nt a, comp nt b with | some x, some y => some (.seq x y) | _, _ => none
  | .cond c a b => match comp nt a, comp nt b with | some x, some y => some (.cond (cX c) x y) | _, _ => none
  | .block id a => (comp nt a).map (.block id)
  | .loop a => (comp nt a).map .loop
  | .exit id => some (.exit id)
  | .ret => some .ret
  | .scope a => comp nt a
  | .label _ => some .skip
  | .rangeFunc f ps a b => match comp nt a, comp nt b with
    | some x, some y => if noR x && noR y && ps.toList.all (fun p => decide (p < nt)) then some (.rangef (cX f) ps.toList x y) else none
    | _, _ => none
  | .goto _ => none
  | .refuse _ => none

def compRV : ResultVar → Option RV
  | .tmp t => some (.t t)
  | .cell a t => match tsize P t, tagg P t with | some n, some g => some (.c a n g) | _, _ => none
def compF (fn : Func) : Option FC :=
  match fn.body with
  | some c => match comp P fn.ntmps c, fn.results.toList.mapM (compRV P) with
    | some m, some rs => if fn.params.size + fn.nfree ≤ fn.ntmps then some ⟨fn.params.size + fn.nfree, rs, m⟩ else none
    | _, _ => none
  | none => none
end Go.Ar
/- How the abstract run's values and memory stand to the machine's: the relation, what keeps it, and the reading and writing of cells under it. -/
set_option linter.unusedSimpArgs false
set_option linter.unusedVariables false
namespace Go.Ar
open Go.RowKit

inductive LK where
  | loose
  | exact
  | grow (es sz : Nat)
/-- Where a block of the abstract run lies: the machine's block, the cell where it begins, and what is known of its slices' capacities. -/
structure Loc where
  blk : Nat
  base : Nat
  kd : LK
abbrev Rho := Nat → Option Loc
def RLe (ρ ρ' : Rho) : Prop := ∀ k L, ρ k = some L → ρ' k = some L
def capOk : LK → Nat → Nat → Nat → Prop
  | .loose, _, c, c' => c ≤ c'
  | .exact, _, c, c' => c' = c
  | .grow es sz, o, c, c' => c ≤ c' ∧ o + c' * es ≤ sz

inductive R (ρ : Rho) : V → Value → Prop
  | undef (v : Value) (h : ∀ b, v ≠ .bool b) : R ρ .undef v
  | bool (b : Bool) : R ρ (.bool b) (.bool b)
  | int (k : IntKind) (n : Int) : R ρ (.int k n) (.int k n)
  | nilp : R ρ .nilp (.pointer none)
  | ptr {k o : Nat} {L : Loc} (h : ρ k = some L) : R ρ (.ptr k o) (.pointer (some ⟨L.blk, L.base + o, none⟩))
  | nils : R ρ .nils (.slice none 0 0)
  | es (a : Option Addr) (c : Nat) : R ρ .es (.slice a 0 c)
  | sl {k o n c c' : Nat} {L : Loc} (h : ρ k = some L) (hc : capOk L.kd o c c') : R ρ (.sl k o n c) (.slice (some ⟨L.blk, L.base + o, none⟩) n c')
  | nilm : R ρ .nilm (.map none)
  | map {k : Nat} {L : Loc} (h : ρ k = some L) : R ρ (.map k) (.map (some L.blk))
  | nilf : R ρ .nilf .nilFunc
  | fn {f : Nat} {a b : List V} {a' b' : Array Value} (ha : a.length = a'.toList.length) (hb : b.length = b'.toList.length)
      (h1 : ∀ (i : Nat) (v : V) (v' : Value), a[i]? = some v → a'.toList[i]? = some v' → R ρ v v') (h2 : ∀ (i : Nat) (v : V) (v' : Value), b[i]? = some v → b'.toList[i]? = some v' → R ρ v v') :
      R ρ (.fn f a b) (.func (.func f) a' b')
  | yld {k : Nat} {L : Loc} (h : ρ k = some L) : R ρ (.yld k) (.func (.yield L.blk) #[] #[])
  | agg {cs : List V} {cs' : Array Value} (h : cs.length = cs'.toList.length) (h1 : ∀ (i : Nat) (v : V) (v' : Value), cs[i]? = some v → cs'.toList[i]? = some v' → R ρ v v') : R ρ (.agg cs) (.agg cs')
  | tup {cs : List V} {cs' : Array Value} (h : cs.length = cs'.toList.length) (h1 : ∀ (i : Nat) (v : V) (v' : Value), cs[i]? = some v → cs'.toList[i]? = some v' → R ρ v v') : R ρ (.tup cs) (.tuple cs')

theorem R.mono {ρ ρ' : Rho} (h : RLe ρ ρ') {v : V} {v' : Value} (hr : R ρ v v') : R ρ' v v' := by
  induction hr with
  | undef v h => exact .undef v h
  | bool b => exact .bool b
  | int k n => exact .int k n
  | nilp => exact .nilp
  | ptr hk => exact .ptr (h _ _ hk)
  | nils => exact .nils
  | es a c => exact .es a c
  | sl hk hc => exact .sl (h _ _ hk) hc
  | nilm => exact .nilm
  | map hk => exact .map (h _ _ hk)
  | nilf => exact .nilf
  | fn ha hb _ _ i1 i2 => exact .fn ha hb i1 i2
  | yld hk => exact .yld (h _ _ hk)
  | agg hl _ ih => exact .agg hl ih
  | tup hl _ ih => exact .tup hl ih

def RL (ρ : Rho) (l : List V) (l' : List Value) : Prop := l.length = l'.length ∧ ∀ (i : Nat) (v : V) (v' : Value), l[i]? = some v → l'[i]? = some v' → R ρ v v'

theorem RL.mono {ρ ρ' : Rho} (h : RLe ρ ρ') {l : List V} {l' : List Value} (hr : RL ρ l l') : RL ρ' l l' := ⟨hr.1, fun i v v' h1 h2 => (hr.2 i v v' h1 h2).mono h⟩
theorem RL.nil (ρ : Rho) : RL ρ [] [] := ⟨rfl, fun i v v' h => by simp at h⟩
theorem RL.cons {ρ : Rho} {v : V} {v' : Value} {l : List V} {l' : List Value} (h : R ρ v v') (hl : RL ρ l l') : RL ρ (v :: l) (v' :: l') := by
  refine ⟨by simp [hl.1], fun i u u' h1 h2 => ?_⟩
  cases i with
  | zero => simp at h1 h2; subst h1; subst h2; exact h
  | succ i => exact hl.2 i u u' (by simpa using h1) (by simpa using h2)
theorem RL.uncons {ρ : Rho} {v : V} {l : List V} {l' : List Value} (h : RL ρ (v :: l) l') : ∃ v' r, l' = v' :: r ∧ R ρ v v' ∧ RL ρ l r := by
  cases l' with
  | nil => have := h.1; simp at this
  | cons v' r =>
    refine ⟨v', r, rfl, h.2 0 _ _ rfl rfl, by have := h.1; simpa using this, fun i u u' h1 h2 => h.2 (i + 1) u u' (by simpa using h1) (by simpa using h2)⟩
theorem RL.append {ρ : Rho} {a b : List V} {a' b' : List Value} (ha : RL ρ a a') (hb : RL ρ b b') : RL ρ (a ++ b) (a' ++ b') := by
  refine ⟨by simp [ha.1, hb.1], fun i v v' h1 h2 => ?_⟩
  by_cases hi : i < a.length
  · rw [List.getElem?_append_left hi] at h1; rw [List.getElem?_append_left (by have := ha.1; omega)] at h2; exact ha.2 i v v' h1 h2
  · rw [List.getElem?_append_right (by omega)] at h1; rw [List.getElem?_append_right (by have := ha.1; omega)] at h2
    rw [← ha.1] at h2
    exact hb.2 _ v v' h1 h2
theorem RL.get {ρ : Rho} {l : List V} {l' : List Value} (h : RL ρ l l') {i : Nat} {v : V} (hv : l[i]? = some v) : ∃ v', l'[i]? = some v' ∧ R ρ v v' := by
  have hi : i < l.length := (List.getElem?_eq_some_iff.1 hv).1
  have hi' : i < l'.length := by rw [← h.1]; exact hi
  exact ⟨l'[i], List.getElem?_eq_getElem hi', h.2 i _ _ hv (List.getElem?_eq_getElem hi')⟩
theorem RL.drop {ρ : Rho} {l : List V} {l' : List Value} (h : RL ρ l l') (n : Nat) : RL ρ (l.drop n) (l'.drop n) :=
  ⟨by simp [h.1], fun i v v' h1 h2 => h.2 (n + i) v v' (by simpa using h1) (by simpa using h2)⟩
theorem RL.take {ρ : Rho} {l : List V} {l' : List Value} (h : RL ρ l l') (n : Nat) : RL ρ (l.take n) (l'.take n) := by
  refine ⟨by simp [h.1], fun i v v' h1 h2 => ?_⟩
  by_cases hi : i < n
  · simp [hi] at h1 h2; exact h.2 i v v' h1 h2
  · simp [List.getElem?_take, hi] at h1
theorem RL.set {ρ : Rho} {l : List V} {l' : List Value} (h : RL ρ l l') {v : V} {v' : Value} (hv : R ρ v v') (n : Nat) : RL ρ (l.set n v) (l'.set n v') := by
  refine ⟨by simp [h.1], fun i u u' h1 h2 => ?_⟩
  rw [List.getElem?_set] at h1 h2
  by_cases hi : n = i
  · subst hi
    simp only [if_pos] at h1 h2
    split at h1 <;> rename_i hl
    · split at h2
      · cases h1; cases h2; exact hv
      · cases h2
    · cases h1
  · simp only [if_neg hi] at h1 h2; exact h.2 i u u' h1 h2
theorem RL.map {ρ : Rho} {α : Type} {f : α → V} {g : α → Value} (l : List α) (h : ∀ x ∈ l, R ρ (f x) (g x)) : RL ρ (l.map f) (l.map g) := by
  induction l with
  | nil => exact RL.nil ρ
  | cons x l ih => exact RL.cons (h x (by simp)) (ih fun y hy => h y (by simp [hy]))
theorem RL.flat {ρ : Rho} {l : List V} {l' : List Value} (h : RL ρ l l') : ∀ n, RL ρ (List.replicate n l).flatten (List.replicate n l').flatten
  | 0 => RL.nil ρ
  | n + 1 => by simp only [List.replicate_succ, List.flatten_cons]; exact h.append (h.flat n)

theorem R.ofAgg {ρ : Rho} {cs : List V} {cs' : Array Value} (h : RL ρ cs cs'.toList) : R ρ (.agg cs) (.agg cs') := .agg h.1 h.2
theorem R.ofTup {ρ : Rho} {cs : List V} {cs' : Array Value} (h : RL ρ cs cs'.toList) : R ρ (.tup cs) (.tuple cs') := .tup h.1 h.2
theorem R.toAgg {ρ : Rho} {cs : List V} {v : Value} (h : R ρ (.agg cs) v) : ∃ cs', v = .agg cs' ∧ RL ρ cs cs'.toList := by cases h with | agg h h1 => exact ⟨_, rfl, h, h1⟩
theorem R.toTup {ρ : Rho} {cs : List V} {v : Value} (h : R ρ (.tup cs) v) : ∃ cs', v = .tuple cs' ∧ RL ρ cs cs'.toList := by cases h with | tup h h1 => exact ⟨_, rfl, h, h1⟩

theorem R.oneCell {ρ : Rho} {v : V} {v' : Value} (h : R ρ v v') (hs : v.scalar = true) : v'.oneCell' = true := by
  cases h <;> first | rfl | (simp [V.scalar] at hs)
theorem R.cellsOne {ρ : Rho} {v : V} {v' : Value} (h : R ρ v v') {cs : List V} (hs : v.cells = some cs) : RL ρ cs v'.cells.toList := by
  cases h <;> simp only [V.cells, Option.some.injEq] at hs <;> first
    | (cases hs; done)
    | (subst hs; refine RL.cons ?_ (RL.nil _); constructor <;> assumption)
    | (subst hs; exact ⟨by assumption, by assumption⟩)

/-- Temporaries: nt of them; each as the abstract one. -/
def RT (ρ : Rho) (nt : Nat) (τ : Nat → V) (tmps : Array Value) : Prop := tmps.size = nt ∧ ∀ t, R ρ (τ t) (tmps.getD t undef)
theorem RT.mono {ρ ρ' : Rho} (h : RLe ρ ρ') {nt : Nat} {τ : Nat → V} {tmps : Array Value} (hr : RT ρ nt τ tmps) : RT ρ' nt τ tmps := ⟨hr.1, fun t => (hr.2 t).mono h⟩
theorem RT.set {ρ : Rho} {nt : Nat} {τ : Nat → V} {tmps : Array Value} (h : RT ρ nt τ tmps) {d : Nat} (hd : d < nt) {v : V} {v' : Value} (hv : R ρ v v') : RT ρ nt (upd τ d v) (tmps.setIfInBounds d v') := by
  refine ⟨by simp [h.1], fun t => ?_⟩
  unfold upd
  by_cases ht : t = d
  · subst ht
    have : (tmps.setIfInBounds t v').getD t undef = v' := by simp [Array.getD, h.1, hd]
    rw [this]; simpa using hv
  · have : (tmps.setIfInBounds d v').getD t undef = tmps.getD t undef := by
      simp only [Array.getD_eq_getD_getElem?, Array.getElem?_setIfInBounds]
      rw [if_neg (by omega)]
    rw [this]
    have hb : (t == d) = false := by simpa using ht
    rw [hb]; exact h.2 t

theorem absS_ok (ρ : Rho) (v : Value) : R ρ (absS v) v := by
  unfold absS
  split
  case h_7 => exact .undef _ fun b hb => by simp_all
  all_goals constructor
theorem absV_ok (ρ : Rho) (v : Value) : R ρ (absV v) v := by
  unfold absV
  split
  · rename_i cs
    exact R.ofAgg (by have := RL.map (ρ := ρ) (f := absS) (g := id) cs.toList (fun x _ => absS_ok ρ x); simpa using this)
  · exact absS_ok ρ _
theorem ev_ok {ρ : Rho} {nt : Nat} {τ : Nat → V} {a : Act} (h : RT ρ nt τ a.tmps) (x : Operand) : R ρ (ev τ (cX x)) (a.eval x) := by
  cases x with
  | tmp t => exact h.2 t
  | const v => exact absV_ok ρ v
  | global g => exact .undef _ (fun b hb => by simp [Act.eval] at hb)
  | func f => exact .fn rfl rfl (by simp) (by simp)

/-! ### Memory -/
def Blk.live : Blk → Bool | .dead => false | _ => true
def Blk.own : Blk → Bool
  | .dead => false
  | .cells _ m => m.wr
  | _ => true

def jumpOf : Ex → Option Code
  | .normal => none
  | .exit i => some (.exit i)
  | .ret => some .ret
def LSOk : LS → Loop → Prop
  | .ready, lo => lo.state = .ready ∧ lo.pending = none
  | .busy, lo => lo.state = .busy
  | .done e, lo => lo.state = .done ∧ lo.pending = jumpOf e ∧ e ≠ .normal

def ModeOk (B0 : Nat) (m : Mode) (L : Loc) (fr : Nat × Nat) (csz n : Nat) : Prop :=
  match m with
  | .ro => ∀ es sz, L.kd ≠ .grow es sz
  | .rg es => L.kd = .grow es csz
  | .ex => B0 ≤ L.blk ∧ fr = (0, 0) ∧ L.base = 0 ∧ L.kd = .exact ∧ csz = n
  | .gr es => B0 ≤ L.blk ∧ fr = (0, 0) ∧ L.base = 0 ∧ L.kd = .grow es csz

def MapOk (ρ : Rho) (es : List (V × V)) (entries : Array MapEntry) (clock : Nat) : Prop :=
  entries.size = es.length ∧ clock = es.length ∧ ∀ (i : Nat) (kv : V × V), es[i]? = some kv → ∃ e, entries[i]? = some e ∧ R ρ kv.1 e.key ∧ R ρ kv.2 e.val ∧ e.born = i

def BlkOk (P : Program) (B0 : Nat) (ρ : Rho) (L : Loc) (w : World) : Blk → Prop
  | .dead => True
  | .cells cs m => ∃ c T fr, w.heap[L.blk]? = some (.cells c T fr) ∧ (∀ (i : Nat) (v : V), cs[i]? = some v → ∃ v', c[L.base + i]? = some v' ∧ R ρ v v') ∧ ModeOk B0 m L fr c.size cs.length
  | .mp es => ∃ entries clock, w.heap[L.blk]? = some (.map entries clock) ∧ B0 ≤ L.blk ∧ MapOk ρ es entries clock
  | .lp τ ps asg body st => ∃ (lo : Loop) (nt : Nat), w.heap[L.blk]? = some (.loop lo) ∧ B0 ≤ L.blk ∧ RT ρ nt τ lo.tmps ∧ lo.params.toList = ps ∧ (∀ p ∈ ps, p < nt) ∧ comp P nt lo.assign = some asg ∧ comp P nt lo.body = some body ∧ noR asg = true ∧ noR body = true ∧ LSOk st lo

theorem BlkOk.mono {P : Program} {B0 : Nat} {ρ ρ' : Rho} (h : RLe ρ ρ') {L : Loc} {w : World} {b : Blk} (hb : BlkOk P B0 ρ L w b) : BlkOk P B0 ρ' L w b := by
  cases b with
  | dead => trivial
  | cells cs m =>
    obtain ⟨c, T, fr, h1, h2, h3⟩ := hb
    exact ⟨c, T, fr, h1, fun i v hv => let ⟨v', a, b⟩ := h2 i v hv; ⟨v', a, b.mono h⟩, h3⟩
  | mp es =>
    obtain ⟨en, cl, h1, h0, h2, h3, h4⟩ := hb
    exact ⟨en, cl, h1, h0, h2, h3, fun i kv hi => let ⟨e, a, b, c, d⟩ := h4 i kv hi; ⟨e, a, b.mono h, c.mono h, d⟩⟩
  | lp τ ps asg body st =>
    obtain ⟨lo, nt, h1, h0, h2, h3⟩ := hb
    exact ⟨lo, nt, h1, h0, h2.mono h, h3⟩
theorem BlkOk.heap {P : Program} {B0 : Nat} {ρ : Rho} {L : Loc} {w w' : World} {b : Blk} (hb : BlkOk P B0 ρ L w b) (h : w'.heap[L.blk]? = w.heap[L.blk]?) : BlkOk P B0 ρ L w' b := by
  cases b with
  | dead => trivial
  | cells cs m => obtain ⟨c, T, fr, h1, h2⟩ := hb; exact ⟨c, T, fr, h.trans h1, h2⟩
  | mp es => obtain ⟨en, cl, h1, h2⟩ := hb; exact ⟨en, cl, h.trans h1, h2⟩
  | lp τ ps asg body st => obtain ⟨lo, nt, h1, h2⟩ := hb; exact ⟨lo, nt, h.trans h1, h2⟩
theorem BlkOk.lt {P : Program} {B0 : Nat} {ρ : Rho} {L : Loc} {w : World} {b : Blk} (hb : BlkOk P B0 ρ L w b) (hl : b.live = true) : L.blk < w.heap.size := by
  cases b with
  | dead => simp [Blk.live] at hl
  | cells cs m => obtain ⟨c, T, fr, h1, h2⟩ := hb; exact (Array.getElem?_eq_some_iff.1 h1).1
  | mp es => obtain ⟨en, cl, h1, h2⟩ := hb; exact (Array.getElem?_eq_some_iff.1 h1).1
  | lp τ ps asg body st => obtain ⟨lo, nt, h1, h2⟩ := hb; exact (Array.getElem?_eq_some_iff.1 h1).1
theorem BlkOk.low {P : Program} {B0 : Nat} {ρ : Rho} {L : Loc} {w : World} {b : Blk} (hb : BlkOk P B0 ρ L w b) (hl : b.own = true) : B0 ≤ L.blk := by
  cases b with
  | dead => simp [Blk.own] at hl
  | cells cs m =>
    obtain ⟨c, T, fr, h1, h2, h3⟩ := hb
    cases m with
    | ro => simp [Blk.own, Mode.wr] at hl
    | rg es => simp [Blk.own, Mode.wr] at hl
    | ex => exact h3.1
    | gr es => exact h3.1
  | mp es => obtain ⟨en, cl, h1, h2, _⟩ := hb; exact h2
  | lp τ ps asg body st => obtain ⟨lo, nt, h1, h2, _⟩ := hb; exact h2
theorem BlkOk.notDef {P : Program} {B0 : Nat} {ρ : Rho} {L : Loc} {w : World} {b : Blk} (hb : BlkOk P B0 ρ L w b) (hl : b.live = true) (d : Option (List Deferred)) : w.heap[L.blk]? ≠ some (.deferred d) := by
  cases b with
  | dead => simp [Blk.live] at hl
  | cells cs m => obtain ⟨c, T, fr, h1, h2⟩ := hb; rw [h1]; simp
  | mp es => obtain ⟨en, cl, h1, h2⟩ := hb; rw [h1]; simp
  | lp τ ps asg body st => obtain ⟨lo, nt, h1, h2⟩ := hb; rw [h1]; simp
theorem Blk.own_live {b : Blk} (h : b.own = true) : b.live = true := by
  cases b <;> first | rfl | (simp [Blk.own] at h)

/-- The abstract memory H, and the machine's world w: B0, w0: since when nothing below B0 has turned; D: the blocks for deferred calls. -/
structure Sim (P : Program) (B0 : Nat) (w0 : World) (ρ : Rho) (H : Heap) (D : List Nat) (w : World) : Prop where
  out : ∀ k, H.length ≤ k → ρ k = none
  base : B0 ≤ w0.heap.size
  low : Below B0 w0 w
  blk : ∀ (k : Nat) (b : Blk), H[k]? = some b → b.live = true → ∃ L, ρ k = some L ∧ BlkOk P B0 ρ L w b
  sep : ∀ (k k' : Nat) (b b' : Blk) (L L' : Loc), k ≠ k' → H[k]? = some b → b.own = true → H[k']? = some b' → b'.live = true → ρ k = some L → ρ k' = some L' → L.blk ≠ L'.blk
  dfr : ∀ r ∈ D, B0 ≤ r ∧ w.heap[r]? = some (.deferred (some []))

def Agree (n : Nat) (ρ ρ' : Rho) : Prop := ∀ k, k < n → ρ' k = ρ k
theorem Agree.refl (n : Nat) (ρ : Rho) : Agree n ρ ρ := fun _ _ => rfl
theorem Agree.trans {n m : Nat} {a b c : Rho} (h : Agree n a b) (h' : Agree m b c) (hnm : n ≤ m) : Agree n a c := fun k hk => (h' k (by omega)).trans (h k hk)

variable {P : Program} {B0 : Nat} {w0 : World} {ρ : Rho} {H : Heap} {D : List Nat} {w : World}

theorem Sim.le (hS : Sim P B0 w0 ρ H D w) {ρ' : Rho} (ha : Agree H.length ρ ρ') : RLe ρ ρ' := fun k L hk => by
  by_cases h : k < H.length
  · rw [ha k h]; exact hk
  · rw [hS.out k (by omega)] at hk; cases hk

def ext (ρ : Rho) (n : Nat) (L : Loc) : Rho := fun k => if k = n then some L else ρ k
theorem agree_ext (ρ : Rho) (n : Nat) (L : Loc) : Agree n ρ (ext ρ n L) := fun k hk => by unfold ext; rw [if_neg (by omega)]
theorem le_ext {n : Nat} (h : ρ n = none) (L : Loc) : RLe ρ (ext ρ n L) := fun k M hk => by
  unfold ext
  by_cases e : k = n
  · subst e; rw [h] at hk; cases hk
  · rw [if_neg e]; exact hk

/-- A draw is not seen. -/
theorem Sim.heapEq (hS : Sim P B0 w0 ρ H D w) {w' : World} (hh : w'.heap = w.heap) (ho : w'.os = w.os) (ht : w'.tape = w.tape) (hu : w'.output = w.output) : Sim P B0 w0 ρ H D w' :=
  ⟨hS.out, hS.base, ⟨ho.trans hS.low.os, ht.trans hS.low.tape, hu.trans hS.low.output, by rw [hh]; exact hS.low.size, fun k hk => by rw [hh]; exact hS.low.block k hk⟩,
   fun k b h hl => let ⟨L, h1, h2⟩ := hS.blk k b h hl; ⟨L, h1, h2.heap (by rw [hh])⟩, hS.sep, fun r hr => by rw [hh]; exact hS.dfr r hr⟩
theorem Sim.drew (hS : Sim P B0 w0 ρ H D w) : Sim P B0 w0 ρ H D w.drew := hS.heapEq rfl rfl rfl rfl

theorem Sim.sizeLe (hS : Sim P B0 w0 ρ H D w) : B0 ≤ w.heap.size := Nat.le_trans hS.base hS.low.size

/-- A new block, at the end of the abstract memory; or in a hole of it. -/
theorem Sim.newAt (hS : Sim P B0 w0 ρ H D w) (o : Obj) (b : Blk) (L : Loc) (hL : L.blk = w.heap.size) {n : Nat} {H' : Heap} (hn : ρ n = none)
    (hold : ∀ k, k ≠ n → ∀ c, H'[k]? = some c → c.live = true → H[k]? = some c) (hnew : ∀ c, H'[n]? = some c → c = b) (hlen : H.length ≤ H'.length) (hnl : n < H'.length)
    (hb : b.live = true → BlkOk P B0 (ext ρ n L) L (w.alloc o) b) : Sim P B0 w0 (ext ρ n L) H' D (w.alloc o) := by
  have hle : RLe ρ (ext ρ n L) := le_ext hn L
  have hkeep : ∀ (L' : Loc) (c : Blk), BlkOk P B0 ρ L' w c → c.live = true → BlkOk P B0 (ext ρ n L) L' (w.alloc o) c := fun L' c hc hl =>
    (hc.mono hle).heap (Below.heap_alloc w o _ (hc.lt hl))
  have hne : ∀ k c, k ≠ n → H'[k]? = some c → c.live = true → ∃ L', ρ k = some L' ∧ L'.blk < w.heap.size ∧ BlkOk P B0 ρ L' w c := fun k c hk hc hl => by
    obtain ⟨L', h1, h2⟩ := hS.blk k c (hold k hk c hc hl) hl
    exact ⟨L', h1, h2.lt hl, h2⟩
  refine ⟨fun k hk => ?_, hS.base, hS.low.alloc hS.sizeLe o, fun k c hc hl => ?_, fun k k' c c' M M' hkk hc hco hc' hcl hM hM' => ?_, fun r hr => ?_⟩
  · unfold ext; rw [if_neg (by omega)]; exact hS.out k (by omega)
  · by_cases hk : k = n
    · subst hk
      have := hnew c hc; subst this
      exact ⟨L, by simp [ext], hb hl⟩
    · obtain ⟨L', h1, _, h2⟩ := hne k c hk hc hl
      exact ⟨L', hle _ _ h1, hkeep L' c h2 hl⟩
  · have hcl0 := Blk.own_live hco
    by_cases hk : k = n
    · subst hk
      have hk' : k' ≠ k := fun e => hkk e.symm
      obtain ⟨L', h1, h2, _⟩ := hne k' c' hk' hc' hcl
      have e1 : M = L := by simp [ext] at hM; exact hM.symm
      have e2 : M' = L' := by unfold ext at hM'; rw [if_neg hk', h1] at hM'; exact (Option.some.inj hM').symm
      subst e1; subst e2; omega
    · obtain ⟨L1, h1, h1l, _⟩ := hne k c hk hc hcl0
      have e1 : M = L1 := by unfold ext at hM; rw [if_neg hk, h1] at hM; exact (Option.some.inj hM).symm
      by_cases hk' : k' = n
      · subst hk'
        have e2 : M' = L := by simp [ext] at hM'; exact hM'.symm
        subst e1; subst e2; omega
      · unfold ext at hM hM'
        rw [if_neg hk] at hM; rw [if_neg hk'] at hM'
        exact hS.sep k k' c c' M M' hkk (hold k hk c hc hcl0) hco (hold k' hk' c' hc' hcl) hcl hM hM'
  · obtain ⟨h1, h2⟩ := hS.dfr r hr
    exact ⟨h1, (Below.heap_alloc w o r (Array.getElem?_eq_some_iff.1 h2).1).trans h2⟩

theorem Sim.new (hS : Sim P B0 w0 ρ H D w) (o : Obj) (b : Blk) (L : Loc) (hL : L.blk = w.heap.size) (hb : b.live = true → BlkOk P B0 (ext ρ H.length L) L (w.alloc o) b) :
    Sim P B0 w0 (ext ρ H.length L) (H ++ [b]) D (w.alloc o) := by
  refine hS.newAt o b L hL (hS.out _ (Nat.le_refl _)) (fun k hk c hc _ => ?_) (fun c hc => ?_) (by simp) (by simp) hb
  · have hlt : k < (H ++ [b]).length := (List.getElem?_eq_some_iff.1 hc).1
    simp at hlt
    rwa [List.getElem?_append_left (by omega)] at hc
  · rw [List.getElem?_append_right (Nat.le_refl _)] at hc; simp at hc; exact hc.symm

/-- One own block turned. -/
theorem Sim.mod (hS : Sim P B0 w0 ρ H D w) {k : Nat} {b b' : Blk} {L : Loc} (hk : H[k]? = some b) (hbo : b.own = true) (hL : ρ k = some L) {w' : World}
    (ho : w'.os = w.os) (ht : w'.tape = w.tape) (hu : w'.output = w.output) (hsz : w'.heap.size = w.heap.size) (hoth : ∀ j, j ≠ L.blk → w'.heap[j]? = w.heap[j]?)
    (hb' : b'.live = true → BlkOk P B0 ρ L w' b') : Sim P B0 w0 ρ (H.set k b') D w' := by
  have hok : BlkOk P B0 ρ L w b := by
    obtain ⟨L', h1, h2⟩ := hS.blk k b hk (Blk.own_live hbo)
    rw [hL] at h1; cases h1; exact h2
  have hlow := hok.low hbo
  have hget : ∀ j c, (H.set k b')[j]? = some c → (j = k ∧ c = b') ∨ (j ≠ k ∧ H[j]? = some c) := fun j c hc => by
    rw [List.getElem?_set] at hc
    by_cases e : k = j
    · subst e; simp only [if_pos] at hc; split at hc
      · cases hc; exact .inl ⟨rfl, rfl⟩
      · cases hc
    · rw [if_neg e] at hc; exact .inr ⟨fun h => e h.symm, hc⟩
  refine ⟨fun j hj => hS.out j (by simpa using hj), hS.base, ⟨ho.trans hS.low.os, ht.trans hS.low.tape, hu.trans hS.low.output, by rw [hsz]; exact hS.low.size, fun j hj => (hoth j (by omega)).trans (hS.low.block j hj)⟩, fun j c hc hl => ?_, fun j j' c c' M M' hjj hc hco hc' hcl hM hM' => ?_, fun r hr => ?_⟩
  · rcases hget j c hc with ⟨rfl, rfl⟩ | ⟨hj, hc0⟩
    · exact ⟨L, hL, hb' hl⟩
    · obtain ⟨L', h1, h2⟩ := hS.blk j c hc0 hl
      exact ⟨L', h1, h2.heap (hoth _ (fun e => hS.sep k j b c L L' (Ne.symm hj) hk hbo hc0 hl hL h1 e.symm))⟩
  · rcases hget j c hc with ⟨rfl, rfl⟩ | ⟨hj, hc0⟩
    · rcases hget j' c' hc' with ⟨rfl, rfl⟩ | ⟨hj', hc0'⟩
      · exact absurd rfl hjj
      · exact hS.sep _ j' b c' M M' hjj hk hbo hc0' hcl hM hM'
    · rcases hget j' c' hc' with ⟨rfl, rfl⟩ | ⟨hj', hc0'⟩
      · have := hS.sep _ j b c M' M (Ne.symm hjj) hk hbo hc0 (Blk.own_live hco) hM' hM
        exact fun e => this e.symm
      · exact hS.sep j j' c c' M M' hjj hc0 hco hc0' hcl hM hM'
  · obtain ⟨h1, h2⟩ := hS.dfr r hr
    refine ⟨h1, (hoth r ?_).trans h2⟩
    intro e
    subst e
    exact hok.notDef (Blk.own_live hbo) _ h2

theorem Sim.kill (hS : Sim P B0 w0 ρ H D w) (k : Nat) : Sim P B0 w0 ρ (H.set k .dead) D w := by
  have hget : ∀ (j : Nat) (c : Blk), (H.set k Blk.dead)[j]? = some c → c.live = true → H[j]? = some c := fun j c hc hl => by
    rw [List.getElem?_set] at hc
    by_cases e : k = j
    · subst e; simp only [if_pos] at hc; split at hc
      · cases hc; simp [Blk.live] at hl
      · cases hc
    · rwa [if_neg e] at hc
  exact ⟨fun j hj => hS.out j (by simpa using hj), hS.base, hS.low, fun j c hc hl => hS.blk j c (hget j c hc hl) hl,
    fun j j' c c' M M' hjj hc hco hc' hcl hM hM' => hS.sep j j' c c' M M' hjj (hget j c hc (Blk.own_live hco)) hco (hget j' c' hc' hcl) hcl hM hM', hS.dfr⟩

/-! ### Cells -/
theorem add_at (b o n : Nat) : (⟨b, o, none⟩ : Addr).add n = ⟨b, o + n, none⟩ := by unfold Addr.add; split <;> simp_all

theorem rd_ok (hS : Sim P B0 w0 ρ H D w) {k o : Nat} {v : V} (h : rd H k o = some v) {L : Loc} (hL : ρ k = some L) : ∃ v', w.cell? ⟨L.blk, L.base + o, none⟩ = some v' ∧ R ρ v v' := by
  unfold rd at h
  split at h
  · rename_i cs m hk
    obtain ⟨L', h1, c, T, fr, h2, h3, _⟩ := hS.blk k _ hk rfl
    rw [hL] at h1; cases h1
    obtain ⟨v', h4, h5⟩ := h3 o v h
    exact ⟨v', by simp [World.cell?, h2, h4], h5⟩
  · cases h

theorem rdn_ok (hS : Sim P B0 w0 ρ H D w) {k o n : Nat} {cs : List V} (h : rdn H k o n = some cs) {L : Loc} (hL : ρ k = some L) :
    ∃ cs' : List Value, RL ρ cs cs' ∧ cs.length = n ∧ ∀ j v, cs'[j]? = some v → w.cell? ((⟨L.blk, L.base + o, none⟩ : Addr).add j) = some v := by
  unfold rdn at h
  split at h
  · rename_i ds m hk
    split at h
    · rename_i hle
      cases h
      obtain ⟨L', h1, c, T, fr, h2, h3, _⟩ := hS.blk k _ hk rfl
      rw [hL] at h1; cases h1
      have hc : ∀ j, j < n → ∃ v', c[L.base + (o + j)]? = some v' ∧ ∀ v, ds[o + j]? = some v → R ρ v v' := fun j hj => by
        obtain ⟨v', h4, h5⟩ := h3 (o + j) ds[o + j] (List.getElem?_eq_getElem (by omega))
        exact ⟨v', h4, fun v hv => by rw [List.getElem?_eq_getElem (by omega)] at hv; cases hv; exact h5⟩
      refine ⟨(List.range n).map fun j => c[L.base + (o + j)]?.getD undef, ⟨by simp; omega, fun i v v' hv hv' => ?_⟩, by simp; omega, fun j v hv => ?_⟩
      · by_cases hi : i < n
        · obtain ⟨u, h4, h5⟩ := hc i hi
          simp [hi] at hv
          simp [hi, h4] at hv'
          subst hv'
          exact h5 v hv
        · simp [List.getElem?_take, hi] at hv
      · by_cases hj : j < n
        · obtain ⟨u, h4, _⟩ := hc j hj
          simp [hj, h4] at hv
          subst hv
          rw [add_at]
          simp [World.cell?, h2, Nat.add_assoc, h4]
        · simp [hj] at hv
    · cases h
  · cases h

theorem getElem?_wrc : ∀ (vs : List V) (cs : List V) (o i : Nat), o + vs.length ≤ cs.length → (wrc cs o vs)[i]? = if o ≤ i ∧ i < o + vs.length then vs[i - o]? else cs[i]?
  | [], cs, o, i, _ => by simp [wrc]; intro h1 h2; omega
  | v :: vs, cs, o, i, h => by
    simp only [wrc]
    rw [getElem?_wrc vs (cs.set o v) (o + 1) i (by simp at h ⊢; omega)]
    simp only [List.length_cons] at h ⊢
    by_cases h1 : o + 1 ≤ i ∧ i < o + 1 + vs.length
    · rw [if_pos h1, if_pos ⟨by omega, by omega⟩]
      obtain ⟨j, hj⟩ : ∃ j, i - o = j + 1 := ⟨i - o - 1, by omega⟩
      rw [hj, List.getElem?_cons_succ]
      congr 1; omega
    · rw [if_neg h1, List.getElem?_set]
      by_cases h2 : o = i
      · subst h2
        rw [if_pos rfl, if_pos (by omega), if_pos ⟨by omega, by omega⟩]
        simp
      · rw [if_neg h2, if_neg (by omega)]
theorem length_wrc : ∀ (vs : List V) (cs : List V) (o : Nat), (wrc cs o vs).length = cs.length
  | [], _, _ => rfl
  | v :: vs, cs, o => by simp only [wrc]; rw [length_wrc]; simp

theorem wr_ok (hS : Sim P B0 w0 ρ H D w) {k o : Nat} {vs : List V} {H' : Heap} (h : wr H k o vs = some H') {L : Loc} (hL : ρ k = some L) {vs' : List Value} (hv : RL ρ vs vs') :
    ∃ w', (storeCells ⟨L.blk, L.base + o, none⟩ vs').run P w = .ok () w' ∧ Sim P B0 w0 ρ H' D w' := by
  unfold wr at h
  split at h
  · rename_i cs m hk
    split at h
    · cases h
    · rename_i hm
      split at h
      · rename_i hle
        split at h
        · rename_i hsc
          cases h
          have hown : (Blk.cells cs m).own = true := by simpa [Blk.own] using hm
          obtain ⟨L', h1, c, T, fr, h2, h3, h4⟩ := hS.blk k _ hk rfl
          rw [hL] at h1; cases h1
          have hfr : fr = (0, 0) := by cases m <;> first | exact absurd rfl hm | exact h4.2.1
          have hb0 : L.base = 0 := by cases m <;> first | exact absurd rfl hm | exact h4.2.2.1
          subst hfr
          have hcsz : cs.length ≤ c.size := by
            by_cases h0 : cs.length = 0
            · omega
            · obtain ⟨v', h5, _⟩ := h3 (cs.length - 1) cs[cs.length - 1] (List.getElem?_eq_getElem (by omega))
              have := (Array.getElem?_eq_some_iff.1 h5).1
              omega
          have hone : ∀ v ∈ vs', v.oneCell' = true := fun v hvm => by
            obtain ⟨i, hi, rfl⟩ := List.mem_iff_getElem.1 hvm
            have hi0 : i < vs.length := by rw [hv.1]; exact hi
            exact (hv.2 i vs[i] vs'[i] (List.getElem?_eq_getElem hi0) (List.getElem?_eq_getElem hi)).oneCell (List.all_eq_true.1 hsc _ (List.getElem_mem hi0))
          have hlv := hv.1
          have hst := run_storeCells_at P L.blk (L.base + o) T vs' 0 c w h2 (by rw [hb0]; omega) hone
          refine ⟨_, hst, ?_⟩
          refine hS.mod hk hown hL rfl rfl rfl (by simp [World.setRow]) (fun j hj => by simp only [World.setRow, Array.getElem?_modify]; rw [if_neg (by omega)]) (fun _ => ?_)
          have hlt : L.blk < w.heap.size := (Array.getElem?_eq_some_iff.1 h2).1
          refine ⟨_, T, (0, 0), setRow_heap w L.blk c _ T _ h2, fun i v hiv => ?_, ?_⟩
          · rw [hb0]
            rw [getElem?_wrc vs cs o i hle] at hiv
            have hsz : (c.toList.take (0 + o + 0) ++ vs' ++ c.toList.drop (0 + o + 0 + vs'.length)).toArray[0 + i]? = if o ≤ i ∧ i < o + vs'.length then vs'[i - o]? else c[i]? := by
              simp only [Nat.zero_add, Nat.add_zero, List.getElem?_toArray]
              by_cases hi1 : i < o
              · rw [if_neg (by omega), List.append_assoc, List.getElem?_append_left (by simp; omega), List.getElem?_take, if_pos hi1]
                simp
              · by_cases hi2 : i < o + vs'.length
                · rw [if_pos ⟨by omega, hi2⟩, List.append_assoc, List.getElem?_append_right (by simp; omega)]
                  have : (c.toList.take o).length = o := by simp; omega
                  rw [this, List.getElem?_append_left (by omega)]
                · rw [if_neg (by omega), List.getElem?_append_right (by simp; omega), List.getElem?_drop]
                  have : (c.toList.take o ++ vs').length = o + vs'.length := by simp; omega
                  rw [this]
                  rw [show o + vs'.length + (i - (o + vs'.length)) = i by omega]
                  simp
            rw [hsz]
            by_cases hin : o ≤ i ∧ i < o + vs.length
            · rw [if_pos hin] at hiv
              rw [if_pos (by rw [← hlv]; exact hin)]
              exact hv.get hiv
            · rw [if_neg hin] at hiv
              rw [if_neg (by rw [← hlv]; exact hin)]
              obtain ⟨v', h5, h6⟩ := h3 i v hiv
              rw [hb0, Nat.zero_add] at h5
              exact ⟨v', h5, h6⟩
          · have hszeq : (c.toList.take (L.base + o + 0) ++ vs' ++ c.toList.drop (L.base + o + 0 + vs'.length)).toArray.size = c.size := by simp; omega
            cases m with
            | ro => exact absurd rfl hm
            | rg es => exact absurd rfl hm
            | ex => exact ⟨h4.1, rfl, h4.2.2.1, h4.2.2.2.1, by rw [hszeq, length_wrc]; exact h4.2.2.2.2⟩
            | gr es => exact ⟨h4.1, rfl, h4.2.2.1, by rw [hszeq]; exact h4.2.2.2⟩
        · cases h
      · cases h
  · cases h
end Go.Ar
/- Each operation but a call: what the abstract run answers, the machine's operation answers. First half. -/
set_option linter.unusedSimpArgs false
set_option linter.unusedVariables false
namespace Go.Ar
open Go.RowKit

def NxOk (ρ : Rho) (nx : Next) (v : V) : Prop := (∃ v', nx = .value v' ∧ R ρ v v') ∨ (nx = .skip ∧ v = .undef)
def Res (P : Program) (B0 : Nat) (w0 : World) (D : List Nat) (ρ : Rho) (H : Heap) (w : World) (s : Sem Next) (v : V) (H' : Heap) : Prop :=
  ∃ nx w' ρ', s.run P w = .ok nx w' ∧ NxOk ρ' nx v ∧ Agree H.length ρ ρ' ∧ Sim P B0 w0 ρ' H' D w'

variable {P : Program} {B0 : Nat} {w0 : World} {ρ : Rho} {H : Heap} {D : List Nat} {w : World}

theorem Res.val {s : Sem Value} {v : V} {v' : Value} {w' : World} {ρ' : Rho} {H' : Heap} (hr : s.run P w = .ok v' w') (hR : R ρ' v v') (ha : Agree H.length ρ ρ') (hS : Sim P B0 w0 ρ' H' D w') :
    Res P B0 w0 D ρ H w (do pure (.value (← s))) v H' := ⟨.value v', w', ρ', by simp [hr], .inl ⟨v', rfl, hR⟩, ha, hS⟩
theorem Res.same {s : Sem Value} {v : V} {v' : Value} (hS : Sim P B0 w0 ρ H D w) (hr : s.run P w = .ok v' w) (hR : R ρ v v') :
    Res P B0 w0 D ρ H w (do pure (.value (← s))) v H := Res.val hr hR (Agree.refl _ _) hS
theorem Res.unit {s : Sem Unit} {w' : World} {H' : Heap} (hr : s.run P w = .ok () w') (hS : Sim P B0 w0 ρ H' D w') :
    Res P B0 w0 D ρ H w (do s; pure .skip) .undef H' := ⟨.skip, w', ρ, by simp [hr], .inr ⟨rfl, rfl⟩, Agree.refl _ _, hS⟩

/-! ### Types -/
theorem tsize_run {t : TypeId} {n : Nat} (h : tsize P t = some n) (w : World) : (sizeOf t).run P w = .ok n w := by
  unfold tsize at h
  cases hi : P.info? t with
  | none => simp [hi] at h
  | some i => simp [hi] at h; simp [sizeOf, typeInfo, hi, h]
theorem tagg_run {t : TypeId} {g : Bool} (h : tagg P t = some g) (w : World) : (isAgg t).run P w = .ok g w := by
  unfold tagg at h
  cases hu : P.underlying t with
  | none => simp [hu] at h
  | some d => cases d <;> simp [hu] at h <;> subst h <;> simp [isAgg, run_underlying hu]
theorem telem_u {t e : TypeId} (h : telem P t = some e) : P.underlying t = some (.slice e) := by
  unfold telem at h
  split at h
  · cases h; assumption
  · cases h
theorem telem_elem {t e : TypeId} (h : telem P t = some e) : P.underlying t = some (.slice (P.elem t)) ∧ P.elem t = e := by
  have hu := telem_u h
  have : P.elem t = e := by simp [Program.elem, hu]
  exact ⟨by rw [this]; exact hu, this⟩
theorem tzero_of {t : TypeId} {zs : List V} (h : tzero P t = some zs) : ∃ i z, P.info? t = some i ∧ i.zero = some z ∧ z.cells.size = i.size ∧ zs = z.cells.toList.map absS ∧ zs.all V.scalar = true := by
  unfold tzero at h
  split at h
  · rename_i i hi
    split at h
    · rename_i z hz
      split at h
      · rename_i hc; cases h; exact ⟨i, z, hi, hz, hc.1, rfl, hc.2⟩
      · cases h
    · cases h
  · cases h
theorem zero_RL (ρ : Rho) (z : Value) : RL ρ (z.cells.toList.map absS) z.cells.toList := by
  have := RL.map (ρ := ρ) (f := absS) (g := id) z.cells.toList (fun x _ => absS_ok ρ x)
  simpa using this
theorem tzero_run {t : TypeId} {i : TypeInfo} {z : Value} (hi : P.info? t = some i) (hz : i.zero = some z) (w : World) : (zeroValue t).run P w = .ok z w := by
  simp [zeroValue, typeInfo, hi, hz]

/-! ### New blocks -/
def newLoc (w : World) : Loc := ⟨w.heap.size, 0, .exact⟩
theorem Sim.newCells (hS : Sim P B0 w0 ρ H D w) {cs : List V} {cs' : Array Value} (h : RL ρ cs cs'.toList) (T : TypeId) :
    Sim P B0 w0 (ext ρ H.length (newLoc w)) (H ++ [.cells cs .ex]) D (w.alloc (.cells cs' T)) := by
  refine hS.new _ _ _ rfl fun _ => ⟨cs', T, (0, 0), World.alloc_heap_new w _, fun i v hv => ?_, hS.sizeLe, rfl, rfl, rfl, by rw [h.1]; simp⟩
  obtain ⟨v', h1, h2⟩ := h.get hv
  exact ⟨v', by simpa [newLoc] using h1, h2.mono (le_ext (hS.out _ (Nat.le_refl _)) _)⟩
theorem R.newPtr {n : Nat} {w : World} : R (ext ρ n (newLoc w)) (.ptr n 0) (.pointer (some ⟨w.heap.size, 0, none⟩)) := by
  have := @R.ptr (ext ρ n (newLoc w)) n 0 (newLoc w) (by simp [ext])
  simpa [newLoc] using this
theorem R.newSl {n len : Nat} {w : World} : R (ext ρ n (newLoc w)) (.sl n 0 len len) (.slice (some ⟨w.heap.size, 0, none⟩) len len) := by
  have := @R.sl (ext ρ n (newLoc w)) n 0 len len len (newLoc w) (by simp [ext]) rfl
  simpa [newLoc] using this

theorem run_newVar (t : TypeId) (v : Value) (w : World) : (newVar t v).run P w = .ok ⟨w.heap.size, 0, none⟩ (w.alloc (.cells v.cells t)) := by simp [newVar, newRow]
theorem run_newRow (t : TypeId) (cs : Array Value) (w : World) : (newRow t cs).run P w = .ok ⟨w.heap.size, 0, none⟩ (w.alloc (.cells cs t)) := by simp [newRow]

/-! ### Parts of a literal -/
theorem RL.wrc {l : List V} {l' : List Value} (h : RL ρ l l') : ∀ {vs : List V} {vs' : List Value} (o : Nat), RL ρ vs vs' → RL ρ (wrc l o vs) (wrc l' o vs') := by
  intro vs
  induction vs generalizing l l' with
  | nil => intro vs' o hv; have := hv.1; cases vs' with | nil => exact h | cons => simp at this
  | cons v vs ih =>
    intro vs' o hv
    obtain ⟨v', r, rfl, h1, h2⟩ := hv.uncons
    exact ih (h.set h1 o) (o + 1) h2
theorem foldl_zip (off : Nat) : ∀ (vs : List Value) (k : Nat) (c : Array Value), ((vs.zipIdx k).foldl (fun cs (p : Value × Nat) => cs.setIfInBounds (off + p.2) p.1) c).toList = wrc c.toList (off + k) vs
  | [], k, c => rfl
  | v :: vs, k, c => by
    simp only [List.zipIdx_cons, List.foldl_cons, wrc]
    rw [foldl_zip off vs (k + 1) _]
    simp [Nat.add_assoc]
theorem fill_ok (place : Nat → Option (Nat × Nat)) : ∀ (ps : List (Nat × Nat × V)) (ps' : List (Nat × Value)) (cs : List V) (cs' : Array Value) (r : List V), RL ρ cs cs'.toList →
    ps.length = ps'.length → (∀ (i : Nat) (p : Nat × Nat × V) (p' : Nat × Value), ps[i]? = some p → ps'[i]? = some p' → place p'.1 = some (p.1, p.2.1) ∧ R ρ p.2.2 p'.2) →
    fillc cs ps = some r → ∃ r', Instr.fill place cs' ps' = some r' ∧ RL ρ r r'.toList
  | [], ps', cs, cs', r, h, hl, hp, hf => by
    cases ps' with
    | nil => simp [fillc] at hf; subst hf; exact ⟨cs', rfl, h⟩
    | cons => simp at hl
  | p :: ps, [], cs, cs', r, h, hl, hp, hf => by simp at hl
  | (off, n, v) :: ps, (i, v') :: ps', cs, cs', r, h, hl, hp, hf => by
    obtain ⟨h1, h2⟩ := hp 0 _ _ rfl rfl
    simp only at h1 h2
    simp only [fillc] at hf
    cases hc : v.cells with
    | none => simp [hc] at hf
    | some vs =>
      simp only [hc] at hf
      split at hf
      · rename_i hn
        split at hf
        · rename_i hle
          have hv := h2.cellsOne hc
          have hsz : v'.cells.size = n := by have := hv.1; simp at this; omega
          have hcl : cs'.size = cs.length := by have := h.1; simp at this; omega
          have hnb : (decide (v'.cells.size ≠ n) || decide (off + v'.cells.size > cs'.size)) = false := by simp [hsz, hcl]; omega
          have hw : RL ρ (wrc cs off vs) (v'.cells.zipIdx.foldl (fun cs (p : Value × Nat) => cs.setIfInBounds (off + p.2) p.1) cs').toList := by
            have e : v'.cells.zipIdx.foldl (fun cs (p : Value × Nat) => cs.setIfInBounds (off + p.2) p.1) cs' = (v'.cells.toList.zipIdx 0).foldl (fun cs (p : Value × Nat) => cs.setIfInBounds (off + p.2) p.1) cs' := by
              rw [← Array.foldl_toList, Array.toList_zipIdx]
            rw [e, foldl_zip off _ 0 cs']
            exact h.wrc off hv
          obtain ⟨r', h3, h4⟩ := fill_ok place ps ps' _ _ r hw (by simpa using hl) (fun j q q' hq hq' => hp (j + 1) q q' (by simpa using hq) (by simpa using hq')) hf
          refine ⟨r', ?_, h4⟩
          simp only [Instr.fill, h1]
          rw [if_neg (by simpa using hnb)]
          exact h3
        · cases hf
      · cases hf

/-! ### The operations -/
variable {nt : Nat} {τ : Nat → V} {a : Act}

theorem op_alloc (hS : Sim P B0 w0 ρ H D w) {t : TypeId} {zs : List V} (hz : tzero P t = some zs) :
    Res P B0 w0 D ρ H w (do pure (.value (← Instr.alloc t true (.tuple #[])))) (.ptr H.length 0) (H ++ [.cells zs .ex]) := by
  obtain ⟨i, z, hi, hz', hs, rfl, _⟩ := tzero_of hz
  refine Res.val (v' := .pointer (some ⟨w.heap.size, 0, none⟩)) (w' := w.alloc (.cells z.cells t)) ?_ R.newPtr (agree_ext _ _ _) (hS.newCells (zero_RL ρ z) t)
  simp [Instr.alloc, tzero_run hi hz', run_newVar]

theorem op_box (hS : Sim P B0 w0 ρ H D w) {t : TypeId} {v : V} {v' : Value} (hv : R ρ v v') {cs : List V} (hc : v.cells = some cs) :
    Res P B0 w0 D ρ H w (do pure (.value (← Instr.box t v'))) (.ptr H.length 0) (H ++ [.cells cs .ex]) := by
  refine Res.val (v' := .pointer (some ⟨w.heap.size, 0, none⟩)) (w' := w.alloc (.cells v'.cells t)) ?_ R.newPtr (agree_ext _ _ _) (hS.newCells (hv.cellsOne hc) t)
  simp [Instr.box, run_newVar]

theorem op_load (hS : Sim P B0 w0 ρ H D w) {t : TypeId} {n : Nat} {g : Bool} (hn : tsize P t = some n) (hg : tagg P t = some g) {k o : Nat} {x' : Value} (hx : R ρ (.ptr k o) x') {v : V}
    (h : (if g then (rdn H k o n).map V.agg else rd H k o) = some v) : ∃ v', (Instr.loadAt t x').run P w = .ok v' w ∧ R ρ v v' := by
  cases hx with
  | ptr hL =>
    cases g with
    | true =>
      simp only [if_true, Option.map_eq_some_iff] at h
      obtain ⟨cs, h1, rfl⟩ := h
      obtain ⟨cs', h2, h3, h4⟩ := rdn_ok hS h1 hL
      have hl := run_loadCells_list (P := P) w _ cs' h4
      have : cs'.length = n := by have := h2.1; omega
      rw [this] at hl
      refine ⟨.agg cs'.toArray, ?_, R.ofAgg (by simpa using h2)⟩
      simp [Instr.loadAt, Instr.sureAddr, loadVar, tagg_run hg, tsize_run hn, hl]
    | false =>
      simp only [Bool.false_eq_true, if_false] at h
      obtain ⟨v', h1, h2⟩ := rd_ok hS h hL
      refine ⟨v', ?_, h2⟩
      simp [Instr.loadAt, Instr.sureAddr, loadVar, tagg_run hg, h1]

theorem op_store (hS : Sim P B0 w0 ρ H D w) {t : TypeId} {n : Nat} (hn : tsize P t = some n) {k o : Nat} {x' : Value} (hx : R ρ (.ptr k o) x') {v : V} {v' : Value} (hv : R ρ v v')
    {cs : List V} (hc : v.cells = some cs) (hl : cs.length = n) {H' : Heap} (h : wr H k o cs = some H') :
    Res P B0 w0 D ρ H w (do Instr.storeAt t x' v'; pure .skip) .undef H' := by
  cases hx with
  | ptr hL =>
    have hr := hv.cellsOne hc
    obtain ⟨w', h1, h2⟩ := wr_ok hS h hL hr
    refine Res.unit (w' := w') ?_ h2
    have : v'.cells.size = n := by have := hr.1; simp at this; omega
    simp [Instr.storeAt, Instr.sureAddr, storeVar, tsize_run hn, this, h1]

theorem mapM_some {α β : Type} {f : α → Option β} : ∀ {l : List α} {r : List β}, l.mapM f = some r → r.length = l.length ∧ ∀ (i : Nat) (x : α), l[i]? = some x → ∃ y, r[i]? = some y ∧ f x = some y
  | [], r, h => by simp at h; subst h; exact ⟨rfl, fun i x hx => by simp at hx⟩
  | x :: l, r, h => by
    simp only [List.mapM_cons, Option.bind_eq_bind, Option.bind_eq_some_iff] at h
    obtain ⟨y, hy, ys, hys, hr⟩ := h
    simp at hr; subst hr
    obtain ⟨h1, h2⟩ := mapM_some hys
    refine ⟨by simp [h1], fun i z hz => ?_⟩
    cases i with
    | zero => simp at hz; subst hz; exact ⟨y, rfl, hy⟩
    | succ i => exact h2 i z (by simpa using hz)

theorem run_places {fields : Array Field} {w : World} (h : ∀ f ∈ fields, ∃ n, tsize P f.type = some n) :
    ∃ ps, (fields.mapM fun (f : Field) => (do pure (f.offset, ← sizeOf f.type) : Sem (Nat × Nat))).run P w = .ok ps w ∧ ∀ (i : Nat) (f : Field) (n : Nat), fields[i]? = some f → tsize P f.type = some n → ps[i]? = some (f.offset, n) := by
  have key : ∀ (l : List Field), (∀ f ∈ l, ∃ n, tsize P f.type = some n) → ∃ ps : List (Nat × Nat), (l.mapM fun (f : Field) => (do pure (f.offset, ← sizeOf f.type) : Sem (Nat × Nat))).run P w = .ok ps w ∧ ∀ (i : Nat) (f : Field) (n : Nat), l[i]? = some f → tsize P f.type = some n → ps[i]? = some (f.offset, n) := by
    intro l
    induction l with
    | nil => exact fun _ => ⟨[], by simp, fun i f n hf => by simp at hf⟩
    | cons f l ih =>
      intro hl
      obtain ⟨n, hn⟩ := hl f (by simp)
      obtain ⟨ps, h1, h2⟩ := ih fun g hg => hl g (by simp [hg])
      refine ⟨(f.offset, n) :: ps, by simp only [List.mapM_cons, Sem.run_bind, Sem.run_pure, tsize_run hn, Result.andThen_ok, h1], fun i g m hg hm => ?_⟩
      cases i with
      | zero => simp at hg; subst hg; rw [hn] at hm; cases hm; rfl
      | succ i => exact h2 i g m (by simpa using hg) hm
  obtain ⟨ps, h1, h2⟩ := key fields.toList (by simpa using h)
  refine ⟨ps.toArray, ?_, fun i f n hf hn => by simpa using h2 i f n (by simpa using hf) hn⟩
  rw [Array.mapM_eq_mapM_toList, Sem.run_map, h1]
  rfl
end Go.Ar
/- Each operation but a call: what the abstract run answers, the machine's operation answers. Second half. -/
set_option linter.unusedSimpArgs false
set_option linter.unusedVariables false
namespace Go.Ar
open Go.RowKit
variable {P : Program} {B0 : Nat} {w0 : World} {ρ : Rho} {H : Heap} {D : List Nat} {w : World} {nt : Nat} {τ : Nat → V} {a : Act}

theorem op_build_struct (hS : Sim P B0 w0 ρ H D w) (hτ : RT ρ nt τ a.tmps) {t : TypeId} {zs : List V} (hz : tzero P t = some zs) {fields : Array Field} (hu : P.underlying t = some (.struct fields))
    (hall : (fields.toList.all fun f => (tsize P f.type).isSome) = true) {parts : Array (Nat × Operand)} {ps : List (Nat × Nat × X)}
    (hps : (parts.toList.mapM fun p => match fields[p.1]? with | some f => (tsize P f.type).map fun n => (f.offset, n, cX p.2) | none => none) = some ps) {cs : List V}
    (h : fillc zs (ps.map fun p => (p.1, p.2.1, ev τ p.2.2)) = some cs) :
    Res P B0 w0 D ρ H w (do pure (.value (← Instr.build t (parts.map fun (i, x) => (i, a.eval x))))) (.agg cs) H := by
  obtain ⟨i, z, hi, hz', hs, rfl, _⟩ := tzero_of hz
  obtain ⟨pl, hpl, hpl2⟩ := run_places (P := P) (fields := fields) (w := w) (fun f hf => Option.isSome_iff_exists.1 (List.all_eq_true.1 hall f (by simpa using hf)))
  obtain ⟨hl, hm⟩ := mapM_some hps
  obtain ⟨r', h1, h2⟩ := fill_ok (ρ := ρ) (pl[·]?) (ps.map fun p => (p.1, p.2.1, ev τ p.2.2)) (parts.toList.map fun (i, x) => (i, a.eval x)) _ z.cells cs (zero_RL ρ z) (by simp [hl]) (fun j q q' hq hq' => by
    simp only [List.getElem?_map, Option.map_eq_some_iff] at hq hq'
    obtain ⟨p, hp, rfl⟩ := hq
    obtain ⟨p', hp', rfl⟩ := hq'
    obtain ⟨y, hy, hfy⟩ := hm j p' hp'
    rw [hp] at hy; cases hy
    cases hf : fields[p'.1]? with
    | none => simp [hf] at hfy
    | some f =>
      simp only [hf, Option.map_eq_some_iff] at hfy
      obtain ⟨n, hn, rfl⟩ := hfy
      exact ⟨hpl2 _ f n hf hn, ev_ok hτ _⟩) h
  refine Res.same (v' := .agg r') hS ?_ (R.ofAgg h2)
  simp only [Instr.build, Sem.run_bind, tzero_run hi hz', Result.andThen_ok, run_underlying hu, hpl, Array.toList_map]
  rw [h1]
  rfl

theorem op_build_array (hS : Sim P B0 w0 ρ H D w) (hτ : RT ρ nt τ a.tmps) {t : TypeId} {zs : List V} (hz : tzero P t = some zs) {len : Nat} {e : TypeId} (hu : P.underlying t = some (.array len e))
    {n : Nat} (hn : tsize P e = some n) {parts : Array (Nat × Operand)} {cs : List V}
    (h : fillc zs ((parts.toList.map fun p => (p.1 * n, n, cX p.2)).map fun p => (p.1, p.2.1, ev τ p.2.2)) = some cs) :
    Res P B0 w0 D ρ H w (do pure (.value (← Instr.build t (parts.map fun (i, x) => (i, a.eval x))))) (.agg cs) H := by
  obtain ⟨i, z, hi, hz', hs, rfl, _⟩ := tzero_of hz
  obtain ⟨r', h1, h2⟩ := fill_ok (ρ := ρ) (fun i => some (i * n, n)) _ (parts.toList.map fun (i, x) => (i, a.eval x)) _ z.cells cs (zero_RL ρ z) (by simp) (fun j q q' hq hq' => by
    simp only [List.getElem?_map, Option.map_eq_some_iff, List.map_map] at hq hq'
    obtain ⟨p, hp, rfl⟩ := hq
    obtain ⟨p', hp', rfl⟩ := hq'
    rw [hp] at hp'; cases hp'
    exact ⟨rfl, ev_ok hτ _⟩) h
  refine Res.same (v' := .agg r') hS ?_ (R.ofAgg h2)
  simp only [Instr.build, Sem.run_bind, tzero_run hi hz', Result.andThen_ok, run_underlying hu, tsize_run hn, Array.toList_map]
  rw [h1]
  rfl

theorem zeros_row (z : Array Value) (hz : 0 < z.size) : ∀ (len : Nat), ((Array.range (len * z.size)).map (z[· % z.size]!)).toList = (List.replicate len z.toList).flatten
  | 0 => by simp
  | len + 1 => by
    have ih := zeros_row z hz len
    rw [List.replicate_succ', List.flatten_append, ← ih]
    simp only [Array.toList_map, Array.toList_range, List.flatten_cons, List.flatten_nil, List.append_nil]
    rw [show (len + 1) * z.size = len * z.size + z.size by rw [Nat.add_mul]; omega, List.range_add, List.map_append]
    congr 1
    apply List.ext_getElem?
    intro i
    simp only [List.map_map, List.getElem?_map]
    by_cases hi : i < z.size
    · simp [List.getElem?_range hi, Nat.mul_add_mod_self_right, Nat.mod_eq_of_lt hi, hi]
    · simp [hi]
theorem madeCells_row (z : Array Value) (hz : 0 < z.size) (len : Nat) : (madeCells z (len * z.size)).toList = (List.replicate len z.toList).flatten := by
  rw [← zeros_row z hz len]; rfl

theorem op_bslice (hS : Sim P B0 w0 ρ H D w) (hτ : RT ρ nt τ a.tmps) {t e : TypeId} (he : telem P t = some e) {n len : Nat} (hn : tsize P e = some n) {zs : List V} (hz : tzero P e = some zs)
    (h0 : 0 < n) (hlim : len * n ≤ 2 ^ 24) {parts : Array (Nat × Operand)} {cs : List V}
    (h : fillc (List.replicate len zs).flatten ((parts.toList.map fun p => (p.1 * n, cX p.2)).map fun p => (p.1, n, ev τ p.2)) = some cs) :
    ∃ cs' : Array Value, RL ρ cs cs'.toList ∧ (Instr.buildSlice t len (parts.map fun (i, x) => (i, a.eval x))).run P w = .ok (.slice (some ⟨w.heap.size, 0, none⟩) len len) (w.alloc (.cells cs' e)) := by
  obtain ⟨i, z, hi, hz', hs, rfl, _⟩ := tzero_of hz
  have hin : i.size = n := by simp [tsize, hi] at hn; exact hn
  rw [hin] at hs
  have hzr : RL ρ (List.replicate len (z.cells.toList.map absS)).flatten ((Array.range (len * n)).map (z.cells[· % z.cells.size]!)).toList := by
    have := zeros_row z.cells (by omega) len
    rw [hs] at this ⊢
    rw [this]; exact (zero_RL ρ z).flat len
  obtain ⟨r', h1, h2⟩ := fill_ok (ρ := ρ) (fun i => some (i * n, n)) _ (parts.toList.map fun (i, x) => (i, a.eval x)) _ _ cs hzr (by simp) (fun j q q' hq hq' => by
    simp only [List.getElem?_map, Option.map_eq_some_iff, List.map_map] at hq hq'
    obtain ⟨p, hp, rfl⟩ := hq
    obtain ⟨p', hp', rfl⟩ := hq'
    rw [hp] at hp'; cases hp'
    exact ⟨rfl, ev_ok hτ _⟩) h
  refine ⟨r', h2, ?_⟩
  have hlim' : ¬ (len * n > 2 ^ 24) := by omega
  by_cases hl : len * n = 0
  · have hc : ((Array.range (len * n)).map (z.cells[· % z.cells.size]!)) = (Array.range (len * n)).map ((#[] : Array Value)[· % (#[] : Array Value).size]!) := by
      rw [hl]; apply Array.ext'; simp
    rw [hc] at h1
    simp only [Instr.buildSlice, Sem.run_bind, run_underlying (telem_u he), Result.andThen_ok, tsize_run hn, if_neg hlim', Sem.run_ite, Sem.run_pure, hl, if_true, Array.toList_map]
    rw [hl] at h1
    simp only [h1]
    simp [run_newRow]
  · simp only [Instr.buildSlice, Sem.run_bind, run_underlying (telem_u he), Result.andThen_ok, tsize_run hn, if_neg hlim', Sem.run_ite, Sem.run_pure, if_neg hl, tzero_run hi hz', Array.toList_map]
    rw [h1]
    simp [run_newRow]

theorem eqGuard_run {op : BinOp} {t : TypeId} {x y : Operand} {u v : Value} (h1 : u ≠ .nilIface) (h2 : ∀ cs, u ≠ .agg cs) : (eqGuard op t x y u v).run P w = .ok () w := by
  unfold eqGuard
  cases u with
  | nilIface => exact absurd rfl h1
  | agg cs => exact absurd rfl (h2 cs)
  | _ => cases op <;> rfl

theorem binop_ok {op : BinOp} {t : TypeId} {x y v : V} {x' y' : Value} (hx : R ρ x x') (hy : R ρ y y') (h : binop op x y = some v) (w : World) :
    ∃ v', (binOp op t x' y').run P w = .ok v' w ∧ R ρ v v' ∧ x' ≠ .nilIface ∧ ∀ cs, x' ≠ .agg cs := by
  cases hx <;> cases hy <;> first | (simp [binop] at h; done) | skip
  rename_i k n k' m
  cases op <;> simp only [binop] at h <;> (try split at h) <;> (try split at h) <;> (try (cases h; done)) <;> (try (simp at h; done)) <;>
    (first | (cases h) | skip) <;> refine ⟨_, ?_, by first | exact R.int _ _ | exact R.bool _, by simp, by simp⟩ <;>
    simp_all [binOp, Op.intArith, Op.intDiv, Op.intBits, Op.intCmp, Op.shift]
  all_goals first | omega | (intro hlt; omega) | skip

theorem R.int_inv {k : IntKind} {n : Int} {v : Value} (h : R ρ (.int k n) v) : v = .int k n := by cases h; rfl
theorem R.bool_inv {b : Bool} {v : Value} (h : R ρ (.bool b) v) : v = .bool b := by cases h; rfl

/-- Structs of whole numbers and bools. -/
theorem eqFields_ok (d : Nat) (xs ys : Array Value) (w : World) : ∀ (fs : List Field) (ks : List Bool) (off : Nat) (us vs : List V) (r : Bool),
    ks.length = fs.length → (∀ (i : Nat) (f : Field) (b : Bool), fs[i]? = some f → ks[i]? = some b → f.offset = off + i ∧ f.name ≠ "_" ∧ (b = true → ∃ k, P.underlying f.type = some (.int k)) ∧ (b = false → P.underlying f.type = some .bool)) →
    RL ρ us (xs.toList.drop off) → RL ρ vs (ys.toList.drop off) → eqAll ks us vs = some r →
    (Op.eqFields (d + 1) xs ys fs).run P w = .ok r w
  | [], ks, off, us, vs, r, hks, _, hu, hv, h => by
    cases ks with
    | nil => cases us <;> cases vs <;> simp [eqAll] at h; subst h; rfl
    | cons => simp at hks
  | f :: fs, [], off, us, vs, r, hks, hf, hu, hv, h => by simp at hks
  | f :: fs, kb :: ks, off, us, vs, r, hks, hf, hu, hv, h => by
    cases us with
    | nil => cases kb <;> simp [eqAll] at h
    | cons u us =>
      obtain ⟨u', ru, e1, hu1, hu2⟩ := hu.uncons
      have hgx : xs[off]? = some u' := by
        have : (xs.toList.drop off)[0]? = some u' := by rw [e1]; rfl
        simpa using this
      have hrx : RL ρ us (xs.toList.drop (off + 1)) := by rw [← List.drop_drop, e1]; simpa using hu2
      cases vs with
      | nil => cases kb <;> cases u <;> simp [eqAll] at h
      | cons v vs =>
        obtain ⟨v', rv, e2, hv1, hv2⟩ := hv.uncons
        have hgy : ys[off]? = some v' := by
          have : (ys.toList.drop off)[0]? = some v' := by rw [e2]; rfl
          simpa using this
        have hry : RL ρ vs (ys.toList.drop (off + 1)) := by rw [← List.drop_drop, e2]; simpa using hv2
        have ih := fun r h => eqFields_ok d xs ys w fs ks (off + 1) us vs r (by simpa using hks) (fun i g b hg hb => by
          have := hf (i + 1) g b (by simpa using hg) (by simpa using hb)
          rwa [show off + (i + 1) = off + 1 + i by omega] at this) hrx hry h
        obtain ⟨hoff, hname, hi, hb⟩ := hf 0 f kb rfl rfl
        simp only [Nat.add_zero] at hoff
        cases kb with
        | true =>
          obtain ⟨k0, hk⟩ := hi rfl
          have hpx : (part f.type xs off).run P w = .ok u' w := by simp [part, isAgg, run_underlying hk, hgx]
          have hpy : (part f.type ys off).run P w = .ok v' w := by simp [part, isAgg, run_underlying hk, hgy]
          cases u <;> (try (simp [eqAll] at h; done))
          cases v <;> (try (simp [eqAll] at h; done))
          rename_i k n k' m
          obtain rfl := hu1.int_inv
          obtain rfl := hv1.int_inv
          simp only [eqAll] at h
          split at h
          · rename_i hkk; subst hkk
            simp only [Op.eqFields, ne_eq, hname, not_false_eq_true, if_true, Sem.run_bind, hoff, hpx, hpy, Result.andThen_ok, run_equalIn_int w d f.type k k0 n m hk]
            split at h
            · rename_i he
              simp only [he, Bool.not_true, Bool.false_eq_true, if_false]
              exact ih r h
            · rename_i he
              cases h
              simp at he
              simp [he]
          · cases h
        | false =>
          have hk := hb rfl
          have hpx : (part f.type xs off).run P w = .ok u' w := by simp [part, isAgg, run_underlying hk, hgx]
          have hpy : (part f.type ys off).run P w = .ok v' w := by simp [part, isAgg, run_underlying hk, hgy]
          cases u <;> (try (simp [eqAll] at h; done))
          cases v <;> (try (simp [eqAll] at h; done))
          rename_i b b'
          obtain rfl := hu1.bool_inv
          obtain rfl := hv1.bool_inv
          simp only [eqAll] at h
          simp only [Op.eqFields, ne_eq, hname, not_false_eq_true, if_true, Sem.run_bind, hoff, hpx, hpy, Result.andThen_ok, run_equalIn_bool w d f.type b b' hk]
          split at h
          · rename_i he
            simp only [he, Bool.not_true, Bool.false_eq_true, if_false]
            exact ih r h
          · rename_i he
            cases h
            simp at he
            simp [he]
end Go.Ar
/- Each operation but a call: what the abstract run answers, the machine's operation answers. Third part: comparisons, slices, maps. -/
set_option linter.unusedSimpArgs false
set_option linter.unusedVariables false
namespace Go.Ar
open Go.RowKit
variable {P : Program} {B0 : Nat} {w0 : World} {ρ : Rho} {H : Heap} {D : List Nat} {w : World} {nt : Nat} {τ : Nat → V} {a : Act}

theorem flat_of {t : TypeId} {ks : List Bool} (h : flat P t = some ks) : ∃ fs : Array Field, P.underlying t = some (.struct fs) ∧ P.stoodInHeld t = false ∧ P.eqGuardType P.depth t = false ∧
    ks.length = fs.toList.length ∧ ∀ (i : Nat) (f : Field) (b : Bool), fs.toList[i]? = some f → ks[i]? = some b → f.offset = 0 + i ∧ f.name ≠ "_" ∧ (b = true → ∃ k, P.underlying f.type = some (.int k)) ∧ (b = false → P.underlying f.type = some .bool) := by
  unfold flat at h
  split at h
  · rename_i fs hu
    split at h
    · rename_i hc
      obtain ⟨h1, h2⟩ := mapM_some h
      refine ⟨fs, hu, hc.1, hc.2, by simpa using h1, fun i f b hf hb => ?_⟩
      have hz : fs.toList.zipIdx[i]? = some (f, i) := by rw [List.getElem?_zipIdx, hf]; simp
      obtain ⟨y, hy, hfy⟩ := h2 i (f, i) hz
      rw [hb] at hy; cases hy
      unfold flat1 at hfy
      split at hfy
      · rename_i hc2
        refine ⟨by simpa using hc2.1, hc2.2, ?_, ?_⟩
        · rintro rfl; split at hfy
          · exact ⟨_, by assumption⟩
          · cases hfy
          · cases hfy
        · rintro rfl; split at hfy
          · cases hfy
          · assumption
          · cases hfy
      · cases hfy
    · cases h
  · cases h

section small
variable (w : World) (d : Nat) {t : TypeId}
theorem eq_pp {e : TypeId} (h : P.underlying t = some (.pointer e)) : (Op.equalIn (d + 1) t (.pointer none) (.pointer none)).run P w = .ok true w := by simp [Op.equalIn, run_underlying h]
theorem eq_pa {e : TypeId} (h : P.underlying t = some (.pointer e)) (x : Addr) : (Op.equalIn (d + 1) t (.pointer none) (.pointer (some x))).run P w = .ok false w := by simp [Op.equalIn, run_underlying h]
theorem eq_ap {e : TypeId} (h : P.underlying t = some (.pointer e)) (x : Addr) : (Op.equalIn (d + 1) t (.pointer (some x)) (.pointer none)).run P w = .ok false w := by simp [Op.equalIn, run_underlying h]
theorem eq_ss {e : TypeId} (h : P.underlying t = some (.slice e)) : (Op.equalIn (d + 1) t (.slice none 0 0) (.slice none 0 0)).run P w = .ok true w := by simp [Op.equalIn, run_underlying h]
theorem eq_sa {e : TypeId} (h : P.underlying t = some (.slice e)) (x : Addr) (n c : Nat) : (Op.equalIn (d + 1) t (.slice none 0 0) (.slice (some x) n c)).run P w = .ok false w := by simp [Op.equalIn, run_underlying h]
theorem eq_as {e : TypeId} (h : P.underlying t = some (.slice e)) (x : Addr) (n c : Nat) : (Op.equalIn (d + 1) t (.slice (some x) n c) (.slice none 0 0)).run P w = .ok false w := by simp [Op.equalIn, run_underlying h]
theorem eq_ff {p r : Array TypeId} {v : Bool} (h : P.underlying t = some (.func p r v)) : (Op.equalIn (d + 1) t .nilFunc .nilFunc).run P w = .ok true w := by simp [Op.equalIn, run_underlying h]
theorem eq_fa {p r : Array TypeId} {v : Bool} (h : P.underlying t = some (.func p r v)) (f : Fn) (x y : Array Value) : (Op.equalIn (d + 1) t .nilFunc (.func f x y)).run P w = .ok false w := by simp [Op.equalIn, run_underlying h]
theorem eq_af {p r : Array TypeId} {v : Bool} (h : P.underlying t = some (.func p r v)) (f : Fn) (x y : Array Value) : (Op.equalIn (d + 1) t (.func f x y) .nilFunc).run P w = .ok false w := by simp [Op.equalIn, run_underlying h]
end small

theorem eqv_ok {t : TypeId} {ne : Bool} {e : EK} {x y : Operand} {x0 y0 : X} (hc : eqOp P t ne x0 y0 = .eq ne e x0 y0) {u v : V} {u' v' : Value} (hu : R ρ u u') (hv : R ρ v v') {r : Bool} (h : eqv e u v = some r) (w : World) :
    (eqGuard (cond ne .neq .eql) t x y u' v').run P w = .ok () w ∧ (Op.equal t u' v').run P w = .ok r w ∧
      (∀ k n, u' ≠ .int k n) ∧ (∀ s, u' ≠ .string s) ∧ (∀ k n, u' ≠ .float k n) ∧ (∀ k n m, u' ≠ .complex k n m) := by
  unfold eqOp at hc
  split at hc
  · rename_i hut
    cases hc
    cases hu <;> cases hv <;> (try (simp [eqv] at h; done))
    simp only [eqv, Option.some.injEq] at h; subst h
    exact ⟨eqGuard_run (by simp) (by simp), run_equal_bool w t _ _ hut, by simp, by simp, by simp, by simp⟩
  · rename_i p hut
    cases hc
    cases hu <;> cases hv <;> (try (simp [eqv] at h; done)) <;> (simp only [eqv, Option.some.injEq] at h; subst h) <;>
      refine ⟨eqGuard_run (by simp) (by simp), ?_, by simp, by simp, by simp, by simp⟩
    · exact eq_pp w 9999 hut
    · exact eq_pa w 9999 hut _
    · exact eq_ap w 9999 hut _
  · rename_i p hut
    cases hc
    cases hu <;> cases hv <;> (try (simp [eqv] at h; done)) <;> (simp only [eqv, Option.some.injEq] at h; subst h) <;>
      refine ⟨eqGuard_run (by simp) (by simp), ?_, by simp, by simp, by simp, by simp⟩
    · exact eq_ss w 9999 hut
    · exact eq_sa w 9999 hut _ _ _
    · exact eq_as w 9999 hut _ _ _
  · rename_i p q vr hut
    cases hc
    cases hu <;> cases hv <;> (try (simp [eqv] at h; done)) <;> (simp only [eqv, Option.some.injEq] at h; subst h) <;>
      refine ⟨eqGuard_run (by simp) (by simp), ?_, by simp, by simp, by simp, by simp⟩
    · exact eq_ff w 9999 hut
    · exact eq_fa w 9999 hut _ _ _
    · exact eq_af w 9999 hut _ _ _
  · rename_i p hut
    cases hf : flat P t with
    | none => simp [hf, optB] at hc
    | some ks =>
      simp only [hf, optB, I.eq.injEq, true_and, and_true] at hc
      subst hc
      obtain ⟨fs, hfs, hst, heg, hkl, hall⟩ := flat_of hf
      cases u <;> (try (simp [eqv] at h; done))
      cases v <;> (try (simp [eqv] at h; done))
      obtain ⟨us', rfl, hu2⟩ := hu.toAgg
      obtain ⟨vs', rfl, hv2⟩ := hv.toAgg
      simp only [eqv] at h
      have hfo : P.fieldsOf t = fs := by simp [Program.fieldsOf, hfs]
      refine ⟨?_, ?_, by simp, by simp, by simp, by simp⟩
      · cases ne <;> simp [eqGuard, heg]
      · have := run_equalIn_struct (P := P) w 9999 t us' vs' (by rw [hfo]; exact hfs) hst
        refine Eq.trans this ?_
        rw [hfo]
        exact eqFields_ok 9998 us' vs' w fs.toList ks 0 _ _ r hkl hall (by simpa using hu2) (by simpa using hv2) h
  · cases hc

theorem eqv_run {t : TypeId} {ne : Bool} {x y : Operand} {u' v' : Value} {r : Bool} (hg : (eqGuard (cond ne .neq .eql) t x y u' v').run P w = .ok () w) (he : (Op.equal t u' v').run P w = .ok r w)
    (n1 : ∀ k n, u' ≠ .int k n) (n2 : ∀ s, u' ≠ .string s) (n3 : ∀ k n, u' ≠ .float k n) (n4 : ∀ k n m, u' ≠ .complex k n m) :
    (do eqGuard (cond ne .neq .eql) t x y u' v'; binOp (cond ne .neq .eql) t u' v' : Sem Value).run P w = .ok (.bool (cond ne (!r) r)) w := by
  simp only [Sem.run_bind, hg, Result.andThen_ok]
  cases ne <;> cases u' <;> first | exact absurd rfl (n1 _ _) | exact absurd rfl (n2 _) | exact absurd rfl (n3 _ _) | exact absurd rfl (n4 _ _ _) | simp [binOp, he]

theorem op_mkfn (hτ : RT ρ nt τ a.tmps) (f : Nat) (x y : Array Operand) : R ρ (.fn f ((x.toList.map cX).map (ev τ)) ((y.toList.map cX).map (ev τ))) (.func (.func f) (x.map a.eval) (y.map a.eval)) := by
  have hl : ∀ z : Array Operand, RL ρ ((z.toList.map cX).map (ev τ)) (z.map a.eval).toList := fun z => by
    rw [List.map_map, Array.toList_map]
    exact RL.map _ fun o _ => ev_ok hτ o
  exact .fn (hl x).1 (hl y).1 (hl x).2 (hl y).2
theorem args_ok (hτ : RT ρ nt τ a.tmps) (x : Array Operand) : RL ρ ((x.toList.map cX).map (ev τ)) (x.map a.eval).toList := by
  rw [List.map_map, Array.toList_map]
  exact RL.map _ fun o _ => ev_ok hτ o

theorem op_mkslice (hS : Sim P B0 w0 ρ H D w) {t e : TypeId} (he : telem P t = some e) {i : TypeInfo} (hi : P.info? e = some i) (hsz : 0 < i.size) {zs : List V} (hz : tzero P e = some zs)
    {kk : IntKind} {n : Int} (h0 : 0 ≤ n) (h1 : n ≤ lim) (h2 : n * i.bytes ≤ 2 ^ 40) :
    ∃ cs' : Array Value, RL ρ (List.replicate n.toNat zs).flatten cs'.toList ∧ (Instr.makeSlice t (.int kk n) (.int kk n)).run P w = .ok (.slice (some ⟨w.heap.size, 0, none⟩) n.toNat n.toNat) (w.alloc (.cells cs' e)) := by
  obtain ⟨i', z, hi', hz', hs, rfl, _⟩ := tzero_of hz
  rw [hi] at hi'; cases hi'
  unfold lim at h1
  refine ⟨_, ?_, run_make w t e i z (telem_u he) hi hz' kk kk n n h0 (Int.le_refl _) (by rw [Int.mul_comm]; omega) (by omega)⟩
  have := madeCells_row z.cells (by omega) n.toNat
  rw [hs] at this
  rw [this]
  exact (zero_RL ρ z).flat _

theorem bounds_ok {lo hi : Option V} {lo' hi' : Option Value} (hlo : ∀ v, lo = some v → ∃ v', lo' = some v' ∧ R ρ v v') (hlo0 : lo = none → lo' = none) (hhi : ∀ v, hi = some v → ∃ v', hi' = some v' ∧ R ρ v v') (hhi0 : hi = none → hi' = none)
    {len cap : Nat} {l h : Int} (hh : hiOf len hi = some h) (hl : loOf lo = some l) (h0 : 0 ≤ l) (h1 : l ≤ h) (h2 : h ≤ cap) (w : World) :
    (Instr.sliceBounds true len cap lo' hi' none).run P w = .ok (l.toNat, h.toNat, cap) w := by
  have eh : (hi' = none ∧ h = len) ∨ ∃ k, hi' = some (.int k h) := by
    cases hi with
    | none => simp [hiOf] at hh; exact .inl ⟨hhi0 rfl, hh.symm⟩
    | some u =>
      obtain ⟨u', e1, hr⟩ := hhi u rfl
      cases u <;> simp [hiOf] at hh
      subst hh
      obtain rfl := hr.int_inv
      exact .inr ⟨_, e1⟩
  have el : (lo' = none ∧ l = 0) ∨ ∃ k, lo' = some (.int k l) := by
    cases lo with
    | none => simp [loOf] at hl; exact .inl ⟨hlo0 rfl, hl.symm⟩
    | some u =>
      obtain ⟨u', e1, hr⟩ := hlo u rfl
      cases u <;> simp [loOf] at hl
      subst hl
      obtain rfl := hr.int_inv
      exact .inr ⟨_, e1⟩
  have hb1 : ∀ k, (Instr.sliceBound (.int k h) cap .sliceAcap).run P w = .ok h.toNat w := fun k => run_sliceBound w _ _ _ _ (by omega) h2
  have hb2 : ∀ k, (Instr.sliceBound (.int k l) h.toNat .sliceB).run P w = .ok l.toNat w := fun k => run_sliceBound w _ _ _ _ h0 (by omega)
  rcases eh with ⟨rfl, e1⟩ | ⟨k, rfl⟩ <;> rcases el with ⟨rfl, e2⟩ | ⟨k', rfl⟩
  · subst e1; subst e2; simp [Instr.sliceBounds]
  · subst e1
    simp only [Int.toNat_natCast] at hb2
    simp [Instr.sliceBounds, hb2]
  · subst e2; simp [Instr.sliceBounds, hb1]
  · simp [Instr.sliceBounds, hb1, hb2]

theorem op_slc (hS : Sim P B0 w0 ρ H D w) {t e : TypeId} (he : telem P t = some e) {n : Nat} (hn : tsize P e = some n) {x : V} {x' : Value} (hx : R ρ x x') {lo hi : Option V} {lo' hi' : Option Value}
    (hlo : ∀ v, lo = some v → ∃ v', lo' = some v' ∧ R ρ v v') (hlo0 : lo = none → lo' = none) (hhi : ∀ v, hi = some v → ∃ v', hi' = some v' ∧ R ρ v v') (hhi0 : hi = none → hi' = none) {v : V}
    (h : slcv H n x lo hi = some v) : ∃ v', (Instr.sliceAt t x' lo' hi' none).run P w = .ok v' w ∧ R ρ v v' := by
  have hel := telem_elem he
  have hrun : ∀ (b : Option Addr) (len cap : Nat) (l h : Int), (Instr.sliceBounds true len cap lo' hi' none).run P w = .ok (l.toNat, h.toNat, cap) w →
      (Instr.sliceAt t (.slice b len cap) lo' hi' none).run P w = .ok (.slice (if cap = l.toNat then b else b.map (·.add (l.toNat * n))) (h.toNat - l.toNat) (cap - l.toNat)) w := by
    intro b len cap l h hb
    rw [run_sliceAt_slice w t _ _ _ _ hel.1, run_slice_any w t b len cap hel.1, hb]
    simp only [Result.andThen_ok, hel.2, tsize_run hn, sliced]
  cases hx with
  | sl hL hc =>
    rename_i k o len cap cap' L
    simp only [slcv] at h
    split at h
    · rename_i hv lv e1 e2
      split at h
      · rename_i hle
        obtain ⟨h0, h1, h2⟩ := hle
        have hcc : cap ≤ cap' := by
          revert hc; unfold capOk; split
          · exact id
          · intro hc; omega
          · exact fun hc => hc.1
        have hb := bounds_ok (P := P) hlo hlo0 hhi hhi0 e1 e2 h0 h1 (show hv ≤ (cap' : Int) by omega) w
        have hr := hrun (some ⟨L.blk, L.base + o, none⟩) len cap' lv hv hb
        refine ⟨_, hr, ?_⟩
        have hmv : ∀ (hlt : lv.toNat ≠ cap') (hcap : capOk L.kd (o + lv.toNat * n) (cap - lv.toNat) (cap' - lv.toNat)),
            R ρ (.sl k (o + lv.toNat * n) (hv.toNat - lv.toNat) (cap - lv.toNat)) (.slice (if cap' = lv.toNat then some ⟨L.blk, L.base + o, none⟩ else (some (⟨L.blk, L.base + o, none⟩ : Addr)).map (·.add (lv.toNat * n))) (hv.toNat - lv.toNat) (cap' - lv.toNat)) := by
          intro hlt hcap
          rw [if_neg (fun e => hlt e.symm)]
          simp only [Option.map_some, add_at]
          have := @R.sl ρ k (o + lv.toNat * n) (hv.toNat - lv.toNat) (cap - lv.toNat) (cap' - lv.toNat) L hL hcap
          simpa [Nat.add_assoc] using this
        have hmoved : (lv.toNat ≠ 0 → lv.toNat < cap → capOk L.kd (o + lv.toNat * n) (cap - lv.toNat) (cap' - lv.toNat)) →
            R ρ (moved k o n len cap lv.toNat hv.toNat) (.slice (if cap' = lv.toNat then some ⟨L.blk, L.base + o, none⟩ else (some (⟨L.blk, L.base + o, none⟩ : Addr)).map (·.add (lv.toNat * n))) (hv.toNat - lv.toNat) (cap' - lv.toNat)) := by
          intro hcap
          unfold moved
          split
          · rename_i hz
            have e0 : (if cap' = lv.toNat then some (⟨L.blk, L.base + o, none⟩ : Addr) else (some (⟨L.blk, L.base + o, none⟩ : Addr)).map (·.add (lv.toNat * n))) = some ⟨L.blk, L.base + o, none⟩ := by
              split
              · rfl
              · simp [add_at, hz]
            rw [e0, hz]
            simpa using @R.sl ρ k o hv.toNat cap cap' L hL hc
          · split
            · exact hmv (by omega) (hcap (by omega) (by omega))
            · rw [show hv.toNat - lv.toNat = 0 by omega]; exact .es _ _
        have hloose : (∀ es sz, L.kd ≠ .grow es sz) → lv.toNat ≠ 0 → lv.toNat < cap → capOk L.kd (o + lv.toNat * n) (cap - lv.toNat) (cap' - lv.toNat) := by
          intro hk _ _
          cases hkd : L.kd with
          | loose => simp only [capOk]; omega
          | exact => rw [hkd] at hc; simp only [capOk] at hc ⊢; omega
          | grow es sz => exact absurd hkd (hk _ _)
        have hgrow : ∀ sz, L.kd = .grow n sz → lv.toNat ≠ 0 → lv.toNat < cap → capOk L.kd (o + lv.toNat * n) (cap - lv.toNat) (cap' - lv.toNat) := by
          intro sz hkd _ hlt
          rw [hkd] at hc ⊢
          obtain ⟨hc1, hc2⟩ := hc
          refine ⟨by omega, ?_⟩
          have e1 : (cap' - lv.toNat) * n = cap' * n - lv.toNat * n := Nat.sub_mul _ _ _
          have e2 : lv.toNat * n ≤ cap' * n := Nat.mul_le_mul_right _ (by omega)
          omega
        cases hk : H[k]? with
        | none => simp [hk] at h
        | some b =>
          cases b with
          | dead => simp [hk] at h
          | mp es => simp [hk] at h
          | lp _ _ _ _ _ => simp [hk] at h
          | cells cs m =>
            obtain ⟨L', hL', hbk⟩ := hS.blk k _ hk rfl
            rw [hL] at hL'; cases hL'
            obtain ⟨c, T, fr, _, _, hm⟩ := hbk
            cases m with
            | ro =>
              simp only [hk, Option.some.injEq] at h
              subst h
              exact hmoved (hloose hm)
            | rg es =>
              simp only [hk] at h
              split at h
              · rename_i hes'; subst hes'
                cases h
                exact hmoved (hgrow _ hm)
              · cases h
            | ex =>
              simp only [hk] at h
              have hkd : L.kd = .exact := hm.2.2.2.1
              rw [hkd] at hc
              have hce : cap' = cap := hc
              subst hce
              split at h
              · rename_i hlc
                cases h
                have : cap' = lv.toNat := by omega
                rw [if_pos this, show hv.toNat - lv.toNat = 0 by omega, show cap' - lv.toNat = 0 by omega]
                exact @R.sl ρ k o 0 0 0 L hL (by rw [hkd]; exact rfl)
              · cases h
                exact hmv (by omega) (by rw [hkd]; exact rfl)
            | gr es =>
              simp only [hk] at h
              split at h
              · rename_i hes'; subst hes'
                cases h
                exact hmoved (hgrow _ hm.2.2.2)
              · cases h
      · cases h
    · cases h
  | nils =>
    simp only [slcv] at h
    split at h
    · rename_i hv lv e1 e2
      split at h
      · rename_i hle
        obtain ⟨rfl, rfl⟩ := hle
        cases h
        have hb := bounds_ok (P := P) hlo hlo0 hhi hhi0 e1 e2 (Int.le_refl _) (Int.le_refl _) (show (0 : Int) ≤ ((0 : Nat) : Int) by omega) w
        exact ⟨_, hrun none 0 0 0 0 hb, by simpa using R.nils⟩
      · cases h
    · cases h
  | es b c' =>
    simp only [slcv] at h
    split at h
    · rename_i hv lv e1 e2
      split at h
      · rename_i hle
        obtain ⟨rfl, rfl⟩ := hle
        cases h
        have hb := bounds_ok (P := P) hlo hlo0 hhi hhi0 e1 e2 (Int.le_refl _) (Int.le_refl _) (show (0 : Int) ≤ (c' : Int) by omega) w
        exact ⟨_, hrun b 0 c' 0 0 hb, by simpa using R.es _ _⟩
      · cases h
    · cases h
  | _ => simp [slcv] at h
end Go.Ar
/- Each operation but a call: what the abstract run answers, the machine's operation answers. Fourth part: append, copy, clear; maps. -/
set_option linter.unusedSimpArgs false
set_option linter.unusedVariables false
namespace Go.Ar
open Go.RowKit
variable {P : Program} {B0 : Nat} {w0 : World} {ρ : Rho} {H : Heap} {D : List Nat} {w : World} {nt : Nat} {τ : Nat → V} {a : Act}

/-- A slice that is read whole. -/
theorem cells_run (hS : Sim P B0 w0 ρ H D w) {size : Nat} {y : V} {y' : Value} (hy : R ρ y y') {ys : List V} (hc : cellsOf H size y = some ys) {m : Nat} (hm : lenOf y = some m) :
    ∃ (b : Option Addr) (c : Nat) (ys' : List Value), y' = .slice b m c ∧ RL ρ ys ys' ∧ ys.length = m * size ∧
      ∀ (n : Nat) (w2 : World), n ≤ m → w2.heap = w.heap → (Builtin.firstCells size n y').run P w2 = .ok (ys'.take (n * size)).toArray w2 := by
  cases hy <;> (try (simp [cellsOf] at hc; done))
  · simp [cellsOf] at hc; simp [lenOf] at hm; subst hc; subst hm
    exact ⟨none, 0, [], rfl, RL.nil _, by simp, fun n w2 hn _ => by simp [Builtin.firstCells]⟩
  · rename_i b c
    simp [cellsOf] at hc; simp [lenOf] at hm; subst hc; subst hm
    refine ⟨b, c, [], rfl, RL.nil _, by simp, fun n w2 hn _ => ?_⟩
    have : n = 0 := by omega
    subst this
    cases b <;> simp [Builtin.firstCells, loadCells, loadCellsFrom]
  · rename_i k o len cap cap' L hL hcap
    simp only [cellsOf] at hc
    simp [lenOf] at hm; subst hm
    obtain ⟨ys', h1, h2, h3⟩ := rdn_ok hS hc hL
    refine ⟨_, _, ys', rfl, h1, h2, fun n w2 hn hh => ?_⟩
    have hln : ys'.length = len * size := by rw [← h1.1]; exact h2
    have hle : n * size ≤ len * size := Nat.mul_le_mul_right _ hn
    refine run_firstCells_some w2 size n _ _ _ (ys'.take (n * size)) (by simp; omega) fun j v hj => ?_
    have hj' : ys'[j]? = some v := by
      by_cases hlt : j < n * size
      · simpa [List.getElem?_take, hlt] using hj
      · simp [List.getElem?_take, hlt] at hj
    have := h3 j v hj'
    simpa [World.cell?, hh] using this

theorem Sim.add (hS : Sim P B0 w0 ρ H D w) {b : Blk} {L : Loc} (hb : BlkOk P B0 (ext ρ H.length L) L w b) (hne : ∀ k c L', H[k]? = some c → c.live = true → ρ k = some L' → L'.blk ≠ L.blk) :
    Sim P B0 w0 (ext ρ H.length L) (H ++ [b]) D w := by
  have hle : RLe ρ (ext ρ H.length L) := le_ext (hS.out _ (Nat.le_refl _)) L
  have hget : ∀ k c, (H ++ [b])[k]? = some c → (k = H.length ∧ c = b) ∨ (k < H.length ∧ H[k]? = some c) := fun k c hc => by
    by_cases hk : k < H.length
    · rw [List.getElem?_append_left hk] at hc; exact .inr ⟨hk, hc⟩
    · rw [List.getElem?_append_right (by omega)] at hc
      have : k - H.length = 0 := by
        by_cases h0 : k - H.length = 0
        · exact h0
        · rw [List.getElem?_eq_none (by simp; omega)] at hc; cases hc
      rw [this] at hc; cases hc
      exact .inl ⟨by omega, rfl⟩
  have hext : ∀ k, k < H.length → ext ρ H.length L k = ρ k := fun k hk => by unfold ext; rw [if_neg (by omega)]
  refine ⟨fun k hk => ?_, hS.base, hS.low, fun k c hc hl => ?_, fun k k' c c' M M' hkk hc hco hc' hcl hM hM' => ?_, hS.dfr⟩
  · simp at hk; unfold ext; rw [if_neg (by omega)]; exact hS.out k (by omega)
  · rcases hget k c hc with ⟨rfl, rfl⟩ | ⟨hk, hc0⟩
    · exact ⟨L, by simp [ext], hb⟩
    · obtain ⟨L', h1, h2⟩ := hS.blk k c hc0 hl
      exact ⟨L', hle _ _ h1, h2.mono hle⟩
  · rcases hget k c hc with ⟨rfl, rfl⟩ | ⟨hk, hc0⟩
    · rcases hget k' c' hc' with ⟨rfl, rfl⟩ | ⟨hk', hc0'⟩
      · exact absurd rfl hkk
      · rw [hext k' hk'] at hM'
        have e1 : M = L := by simp [ext] at hM; exact hM.symm
        subst e1
        exact fun e => hne k' c' M' hc0' hcl hM' e.symm
    · rw [hext k hk] at hM
      rcases hget k' c' hc' with ⟨rfl, rfl⟩ | ⟨hk', hc0'⟩
      · have e1 : M' = L := by simp [ext] at hM'; exact hM'.symm
        subst e1
        exact hne k c M hc0 (Blk.own_live hco) hM
      · rw [hext k' hk'] at hM'
        exact hS.sep k k' c c' M M' hkk hc0 hco hc0' hcl hM hM'

theorem u63 : IntKind.i64.max = 9223372036854775807 := rfl

theorem op_append (hS : Sim P B0 w0 ρ H D w) {t e : TypeId} (he : telem P t = some e) {i : TypeInfo} (hi : P.info? e = some i) (hs0 : 0 < i.size) (hb0 : 0 < i.bytes) {zs : List V} (hz : tzero P e = some zs)
    {ty : TypeId} {x y : V} {x' y' : Value} (hx : R ρ x x') (hy : R ρ y y') {v : V} {H' : Heap} (h : appendv H i.size i.bytes x y = some (v, H')) :
    ∃ v' w' ρ', (Builtin.append_ #[t, t] ty #[x', y']).run P w = .ok v' w' ∧ R ρ' v v' ∧ Agree H.length ρ ρ' ∧ Sim P B0 w0 ρ' H' D w' := by
  obtain ⟨i', z, hi', hz', hzs, _, _⟩ := tzero_of hz
  rw [hi] at hi'; cases hi'
  have hu := telem_u he
  unfold appendv at h
  split at h
  case h_2 => cases h
  rename_i m ys hm hys
  split at h
  · cases h
  rename_i hsc
  simp only [Bool.not_eq_false] at hsc
  obtain ⟨yb, yc, ys', ey, hy1, hy2, hy3⟩ := cells_run hS hy hys hm
  have hl' : ys'.length = m * i.size := by rw [← hy1.1]; exact hy2
  have hfull : ∀ w2 : World, w2.heap = w.heap → (Builtin.firstCells i.size m y').run P w2 = .ok ys'.toArray w2 := fun w2 hh => by
    have := hy3 m w2 (Nat.le_refl _) hh
    rwa [List.take_of_length_le (by omega)] at this
  subst ey
  have hnl : ∀ (n c k : Nat) (b : Option Addr), (Builtin.lenOf (.slice b n c) : Sem Nat).run P w = .ok n w := fun n c k b => rfl
  -- room is there
  have hroom : ∀ (b : Option Addr) (n c : Nat), n + m ≤ c → (Builtin.append_ #[t, t] ty #[.slice b n c, .slice yb m yc]).run P w =
      (match b with | some q => ((storeCells (q.add (n * i.size)) ys').run P w).andThen fun _ w' => .ok (.slice b (n + m) c) w' | none => .ok (.slice b (n + m) c) w) := by
    intro b n c hc
    have hf := hfull w rfl
    cases b with
    | none => simp [Builtin.append_, run_underlying hu, sizeOf, typeInfo, hi, Builtin.lenOf, hc, hf]
    | some q => simp [Builtin.append_, run_underlying hu, sizeOf, typeInfo, hi, Builtin.lenOf, hc, hf]
  -- a new row
  have hgrow : ∀ (b : Option Addr) (n c : Nat) (xs' : List Value), c < n + m → (n + m) * i.bytes ≤ 2 ^ 40 → n + m ≤ lim →
      (Builtin.firstCells i.size n (.slice b n c)).run P w.drew = .ok xs'.toArray w.drew → xs'.length = n * i.size →
      ∃ (cs' : Array Value) (nc : Nat), (Builtin.append_ #[t, t] ty #[.slice b n c, .slice yb m yc]).run P w = .ok (.slice (some ⟨w.heap.size, 0, none⟩) (n + m) nc) (w.drew.alloc (.cells cs' e)) ∧
        n + m ≤ nc ∧ cs'.size = nc * i.size ∧ ∀ j, j < (n + m) * i.size → cs'[j]? = (xs' ++ ys')[j]? := by
    intro b n c xs' hc hby hlim hfx hlx
    unfold lim at hlim
    have hn : ¬ (n + m ≤ c) := by omega
    have h63 : ¬ (9223372036854775807 < ((n : Int) + (m : Int))) := by omega
    have h48 : ¬ (281474976710656 < Builtin.nextslicecap (n + m) c * i.bytes) := by
      have := Nat.mul_le_mul_right i.bytes (nextslicecap_le (need := n + m) (old := c) (by omega))
      have e1 : 2 * (n + m) * i.bytes = 2 * ((n + m) * i.bytes) := Nat.mul_assoc _ _ _
      omega
    have hf := hfull w.drew rfl
    have hge : n + m ≤ grownCap w (n + m) c e := Nat.le_add_right _ _
    refine ⟨xs'.toArray ++ ys'.toArray ++ Builtin.zeroCells z.cells (grownCap w (n + m) c e - (n + m)), grownCap w (n + m) c e, ?_, hge, ?_, fun j hj => ?_⟩
    · simp [Builtin.append_, run_underlying hu, sizeOf, typeInfo, zeroValue, hi, hz', Builtin.lenOf, hn, h63, h48, Question.forced, hf, hfx, newRow, grownCap]
      congr 2
      apply Array.ext'
      simp [List.append_assoc]
    · have e1 : (grownCap w (n + m) c e - (n + m)) * i.size = grownCap w (n + m) c e * i.size - (n + m) * i.size := Nat.sub_mul _ _ _
      have e2 : (n + m) * i.size ≤ grownCap w (n + m) c e * i.size := Nat.mul_le_mul_right _ hge
      have e3 : (n + m) * i.size = n * i.size + m * i.size := Nat.add_mul _ _ _
      simp [Builtin.zeroCells, hlx, hl', hzs]
      omega
    · have e3 : (n + m) * i.size = n * i.size + m * i.size := Nat.add_mul _ _ _
      rw [Array.getElem?_append_left (by simp; omega)]
      simp
  -- the new block in the abstract memory
  have hput : ∀ (H2 : Heap) (w2 : World) (hS2 : Sim P B0 w0 ρ H2 D w2) (xs : List V) (xs' : List Value) (cs' : Array Value) (n nc : Nat), RL ρ xs xs' → xs.length = n * i.size → n + m ≤ nc → cs'.size = nc * i.size →
      (∀ j, j < (n + m) * i.size → cs'[j]? = (xs' ++ ys')[j]?) →
      Sim P B0 w0 (ext ρ H2.length ⟨w2.heap.size, 0, .grow i.size cs'.size⟩) (H2 ++ [.cells (xs ++ ys) (.gr i.size)]) D (w2.alloc (.cells cs' e)) ∧
      R (ext ρ H2.length ⟨w2.heap.size, 0, .grow i.size cs'.size⟩) (.sl H2.length 0 (n + m) (n + m)) (.slice (some ⟨w2.heap.size, 0, none⟩) (n + m) nc) := by
    intro H2 w2 hS2 xs xs' cs' n nc hxs hxl hnc hcs hj
    have hl := le_ext (hS2.out _ (Nat.le_refl _)) ⟨w2.heap.size, 0, .grow i.size cs'.size⟩
    have e3 : (n + m) * i.size = n * i.size + m * i.size := Nat.add_mul _ _ _
    refine ⟨hS2.new _ _ _ rfl fun _ => ⟨cs', e, (0, 0), World.alloc_heap_new w2 _, fun j v hv => ?_, hS2.sizeLe, rfl, rfl, rfl⟩, ?_⟩
    · have hlt : j < (xs ++ ys).length := (List.getElem?_eq_some_iff.1 hv).1
      obtain ⟨v', h1, h2⟩ := (hxs.append hy1).get hv
      refine ⟨v', ?_, h2.mono hl⟩
      simp only [Nat.zero_add]
      rw [hj j (by simp [hxl, hy2] at hlt; omega)]
      exact h1
    · have := @R.sl (ext ρ H2.length ⟨w2.heap.size, 0, .grow i.size cs'.size⟩) H2.length 0 (n + m) (n + m) nc ⟨w2.heap.size, 0, .grow i.size cs'.size⟩ (by simp [ext]) ⟨hnc, by omega⟩
      simpa using this
  cases hx with
  | nils =>
    simp only at h
    split at h
    · rename_i hm0; subst hm0; cases h
      refine ⟨_, _, ρ, ?_, R.nils, Agree.refl _ _, hS⟩
      have := hroom none 0 0 (by omega)
      simpa using this
    · split at h
      · rename_i hm0 hc
        cases h
        obtain ⟨cs', nc, h1, h2, h3, h4⟩ := hgrow none 0 0 [] (by omega) (by simpa using hc.1) (by simpa using hc.2) (by simp [Builtin.firstCells]) (by simp)
        obtain ⟨h5, h6⟩ := hput H w.drew hS.drew [] [] cs' 0 nc (RL.nil _) (by simp) h2 h3 h4
        simp only [Nat.zero_add, List.nil_append] at h1 h5 h6
        exact ⟨_, _, _, h1, h6, agree_ext _ _ _, h5⟩
      · cases h
  | sl hL hcap =>
    rename_i k o len cap cap' L
    simp only at h
    split at h
    case h_2 => cases h
    rename_i cs md hk
    split at h
    case isFalse => cases h
    rename_i hle
    obtain ⟨L', hL', c, T, fr, hc1, hc2, hc3⟩ := hS.blk k _ hk rfl
    rw [hL] at hL'; cases hL'
    have hcc : cap ≤ cap' := by
      revert hcap; unfold capOk; split
      · exact id
      · intro hc; omega
      · exact fun hc => hc.1
    split at h
    · rename_i hfit
      split at h
      · rename_i H2 hw
        cases h
        obtain ⟨w', h1, h2⟩ := wr_ok hS hw hL hy1
        have := hroom (some ⟨L.blk, L.base + o, none⟩) len cap' (by omega)
        simp only [add_at] at this
        rw [Nat.add_assoc, h1] at this
        exact ⟨_, w', ρ, this, R.sl hL hcap, Agree.refl _ _, h2⟩
      · cases h
    · rename_i hfit
      split at h
      case isFalse => cases h
      rename_i hlim
      have hrd : rdn H k o (len * i.size) = some ((cs.drop o).take (len * i.size)) := by simp [rdn, hk, hle]
      obtain ⟨xs', hx1, hx2, hx3⟩ := rdn_ok hS hrd hL
      have hxl : xs'.length = len * i.size := by rw [← hx1.1]; exact hx2
      have hfx : ∀ c : Nat, (Builtin.firstCells i.size len (.slice (some ⟨L.blk, L.base + o, none⟩) len c)).run P w.drew = .ok xs'.toArray w.drew := fun c =>
        run_firstCells_some w.drew i.size len _ _ _ xs' hxl fun j v hj => by simpa using hx3 j v hj
      cases md with
      | ro => cases h
      | rg es => cases h
      | ex =>
        cases h
        have hkd : L.kd = .exact := hc3.2.2.2.1
        rw [hkd] at hcap
        have hce : cap' = cap := hcap
        obtain ⟨cs', nc, h1, h2, h3, h4⟩ := hgrow (some ⟨L.blk, L.base + o, none⟩) len cap' xs' (by omega) (by omega) (by omega) (hfx _) hxl
        obtain ⟨h5, h6⟩ := hput H w.drew hS.drew _ xs' cs' len nc hx1 hx2 h2 h3 h4
        exact ⟨_, _, _, h1, h6, agree_ext _ _ _, h5⟩
      | gr es =>
        simp only at h
        split at h
        case isFalse => cases h
        rename_i hes
        obtain ⟨rfl, rfl⟩ := hes
        cases h
        obtain ⟨hB, hfr, hbase, hkd⟩ := hc3
        simp only [List.drop_zero] at hx1 hx2
        have hag : ∀ M, Agree H.length ρ (ext ρ (H.set k .dead).length M) := fun M => by rw [List.length_set]; exact agree_ext _ _ _
        have hlen : (H.set k Blk.dead).length = H.length := by simp
        by_cases hroomy : len + m ≤ cap'
        · -- in place
          rw [hkd] at hcap
          obtain ⟨_, hcap2⟩ := hcap
          subst hfr
          have hone : ∀ v ∈ ys', v.oneCell' = true := fun v hvm => by
            obtain ⟨j, hj, rfl⟩ := List.mem_iff_getElem.1 hvm
            have hj0 : j < ys.length := by rw [hy1.1]; exact hj
            exact (hy1.2 j ys[j] ys'[j] (List.getElem?_eq_getElem hj0) (List.getElem?_eq_getElem hj)).oneCell (List.all_eq_true.1 hsc _ (List.getElem_mem hj0))
          have e3 : (len + m) * i.size = len * i.size + m * i.size := Nat.add_mul _ _ _
          have e4 : (len + m) * i.size ≤ cap' * i.size := Nat.mul_le_mul_right _ hroomy
          have hst := run_storeCells_at P L.blk (L.base + 0 + len * i.size) T ys' 0 c w hc1 (by rw [hbase]; omega) hone
          have := hroom (some ⟨L.blk, L.base + 0, none⟩) len cap' hroomy
          simp only [add_at] at this
          rw [hst] at this
          simp only [Result.andThen_ok] at this
          have hown : (Blk.cells cs (.gr i.size)).own = true := rfl
          have hS1 := hS.mod (b' := .dead) hk hown hL (w' := w.setRow L.blk (c.toList.take (L.base + 0 + len * i.size + 0) ++ ys' ++ c.toList.drop (L.base + 0 + len * i.size + 0 + ys'.length)).toArray) rfl rfl rfl (by simp [World.setRow]) (fun j hj => by simp only [World.setRow, Array.getElem?_modify]; rw [if_neg (by omega)]) (fun hl => by simp [Blk.live] at hl)
          have hszeq : (c.toList.take (L.base + 0 + len * i.size + 0) ++ ys' ++ c.toList.drop (L.base + 0 + len * i.size + 0 + ys'.length)).toArray.size = c.size := by rw [hbase]; simp; omega
          have hle2 : RLe ρ (ext ρ (H.set k Blk.dead).length L) := le_ext (hS1.out _ (Nat.le_refl _)) L
          have hS2 := hS1.add (b := .cells (cs.take (len * i.size) ++ ys) (.gr i.size)) (L := L) ?_ ?_
          · refine ⟨_, _, _, this, ?_, hag _, hS2⟩
            have hr := @R.sl (ext ρ (H.set k Blk.dead).length L) (H.set k Blk.dead).length 0 (len + m) (len + m) cap' L (by simp [ext]) (by rw [hkd]; exact ⟨hroomy, by omega⟩)
            rw [hlen] at hr ⊢
            exact hr
          · refine ⟨_, T, (0, 0), setRow_heap w L.blk c _ T _ hc1, fun j v hv => ?_, hB, rfl, hbase, by rw [hszeq]; exact hkd⟩
            rw [hbase]
            simp only [Nat.zero_add, Nat.add_zero, List.getElem?_toArray]
            have htk : (cs.take (len * i.size)).length = len * i.size := by simp; omega
            have hctk : (c.toList.take (len * i.size)).length = len * i.size := by simp; omega
            by_cases hj : j < len * i.size
            · rw [List.getElem?_append_left (by omega), List.getElem?_take, if_pos hj] at hv
              obtain ⟨v', h5, h6⟩ := hc2 j v hv
              rw [hbase, Nat.zero_add] at h5
              refine ⟨v', ?_, h6.mono hle2⟩
              rw [List.append_assoc, List.getElem?_append_left (by omega), List.getElem?_take, if_pos hj]
              simpa using h5
            · rw [List.getElem?_append_right (by omega), htk] at hv
              obtain ⟨v', h5, h6⟩ := hy1.get hv
              refine ⟨v', ?_, h6.mono hle2⟩
              have hlt := (List.getElem?_eq_some_iff.1 h5).1
              rw [List.append_assoc, List.getElem?_append_right (by omega), hctk, List.getElem?_append_left (by omega)]
              exact h5
          · intro j b L' hj hl hL'
            have hjk : j ≠ k := by
              rintro rfl
              rw [List.getElem?_set] at hj
              simp only [if_pos] at hj
              split at hj
              · cases hj; simp [Blk.live] at hl
              · cases hj
            rw [List.getElem?_set, if_neg (fun e => hjk e.symm)] at hj
            exact fun e => hS.sep k j _ b L L' (fun e => hjk e.symm) hk hown hj hl hL hL' e.symm
        · obtain ⟨cs', nc, h1, h2, h3, h4⟩ := hgrow (some ⟨L.blk, L.base + 0, none⟩) len cap' xs' (by omega) (by omega) (by omega) (hfx _) hxl
          obtain ⟨h5, h6⟩ := hput (H.set k .dead) w.drew (hS.drew.kill k) _ xs' cs' len nc hx1 hx2 h2 h3 h4
          rw [hlen] at h6
          refine ⟨_, _, _, h1, ?_, hag _, h5⟩
          rw [hlen]; exact h6
  | _ => simp at h
end Go.Ar
/- Each operation but a call: what the abstract run answers, the machine's operation answers. Fifth part: copy, clear, maps; all operations together. -/
set_option linter.unusedSimpArgs false
set_option linter.unusedVariables false
namespace Go.Ar
open Go.RowKit
variable {P : Program} {B0 : Nat} {w0 : World} {ρ : Rho} {H : Heap} {D : List Nat} {w : World} {nt : Nat} {τ : Nat → V} {a : Act}

theorem lenOf_sl {y : V} {y' : Value} (hy : R ρ y y') {m : Nat} (hm : lenOf y = some m) : ∃ b c, y' = .slice b m c := by
  cases hy <;> simp [lenOf] at hm <;> subst hm <;> exact ⟨_, _, rfl⟩

theorem op_copy (hS : Sim P B0 w0 ρ H D w) {t u e : TypeId} (he : telem P t = some e) {size : Nat} (hn : tsize P e = some size) {ty : TypeId} {x y : V} {x' y' : Value} (hx : R ρ x x') (hy : R ρ y y')
    {n m : Nat} (hlx : lenOf x = some n) (hly : lenOf y = some m) {ys : List V} (hys : cellsOf H size y = some ys) {k o c : Nat} (hxe : x = .sl k o n c) {H' : Heap} (hw : wr H k o (ys.take (min m n * size)) = some H') :
    ∃ w', (Builtin.copy_ #[t, u] ty #[x', y']).run P w = .ok (goInt (min m n : Nat)) w' ∧ Sim P B0 w0 ρ H' D w' := by
  subst hxe
  obtain ⟨yb, yc, ys', ey, hy1, hy2, hy3⟩ := cells_run hS hy hys hly
  subst ey
  cases hx with
  | sl hL hcap =>
    obtain ⟨w', h1, h2⟩ := wr_ok hS hw hL (hy1.take _)
    refine ⟨w', ?_, h2⟩
    have hf := hy3 (min m n) w (Nat.min_le_left _ _) rfl
    simp [Builtin.copy_, run_underlying (telem_u he), Builtin.lenOf, tsize_run hn, Nat.min_def] at hf ⊢
    simp only [Nat.min_def] at h1
    rw [hf]
    simp [h1]
theorem op_copy_nil (hS : Sim P B0 w0 ρ H D w) {t u e : TypeId} (he : telem P t = some e) {size : Nat} (hn : tsize P e = some size) {ty : TypeId} {y : V} {y' : Value} (hy : R ρ y y')
    {m : Nat} (hly : lenOf y = some m) {ys : List V} (hys : cellsOf H size y = some ys) : (Builtin.copy_ #[t, u] ty #[.slice none 0 0, y']).run P w = .ok (goInt 0) w := by
  obtain ⟨yb, yc, ys', ey, hy1, hy2, hy3⟩ := cells_run hS hy hys hly
  subst ey
  have hf := hy3 0 w (Nat.zero_le _) rfl
  simp [Builtin.copy_, run_underlying (telem_u he), Builtin.lenOf, tsize_run hn] at hf ⊢
  rw [hf]
  simp

theorem zeroCells_row (z : Array Value) (hz : 0 < z.size) (len : Nat) : (Builtin.zeroCells z len).toList = (List.replicate len z.toList).flatten := by
  rw [← zeros_row z hz len]; rfl

theorem op_clear (hS : Sim P B0 w0 ρ H D w) {t e : TypeId} (he : telem P t = some e) {zs : List V} (hz : tzero P e = some zs) {size : Nat} (hn : tsize P e = some size) (h0 : 0 < size) {ty : TypeId} {k o n c : Nat} {x' : Value} (hx : R ρ (.sl k o n c) x')
    (hn0 : n ≠ 0) {H' : Heap} (hw : wr H k o (List.replicate n zs).flatten = some H') : ∃ w', (Builtin.clear_ #[t] ty #[x']).run P w = .ok (.tuple #[]) w' ∧ Sim P B0 w0 ρ H' D w' := by
  obtain ⟨i, z, hi, hz', hs, rfl, _⟩ := tzero_of hz
  have hin : i.size = size := by simp [tsize, hi] at hn; exact hn
  cases hx with
  | sl hL hcap =>
    obtain ⟨w', h1, h2⟩ := wr_ok hS hw hL ((zero_RL ρ z).flat n)
    refine ⟨w', ?_, h2⟩
    rw [← zeroCells_row z.cells (by omega) n] at h1
    obtain ⟨n', rfl⟩ : ∃ n', n = n' + 1 := ⟨n - 1, by omega⟩
    simp [Builtin.clear_, run_underlying (telem_u he), tzero_run hi hz', h1]
theorem op_clear0 {t e : TypeId} (he : telem P t = some e) {ty : TypeId} {k o c : Nat} {x' : Value} (hx : R ρ (.sl k o 0 c) x') (w : World) : (Builtin.clear_ #[t] ty #[x']).run P w = .ok (.tuple #[]) w := by
  cases hx with
  | sl hL hcap => simp [Builtin.clear_, run_underlying (telem_u he)]
theorem op_clear_nil {t e : TypeId} (he : telem P t = some e) {ty : TypeId} (w : World) : (Builtin.clear_ #[t] ty #[.slice none 0 0]).run P w = .ok (.tuple #[]) w := by
  simp [Builtin.clear_, run_underlying (telem_u he)]

/-! ### Maps -/
theorem keyInt_u {t : TypeId} (h : keyOk P t = some .int) : ∃ k, P.underlying t = some (.int k) := by
  unfold keyOk at h
  split at h
  · exact ⟨_, by assumption⟩
  · split at h
    · split at h <;> cases h
    · cases h
  · cases h
theorem keyPair_u {t : TypeId} (h : keyOk P t = some .pair) : ∃ e k, P.underlying t = some (.array 2 e) ∧ tsize P e = some 1 ∧ P.underlying e = some (.int k) := by
  unfold keyOk at h
  split at h
  · cases h
  · rename_i e hu
    split at h
    · rename_i hs
      split at h
      · rename_i k hk; exact ⟨e, k, hu, hs, hk⟩
      · cases h
    · cases h
  · cases h

theorem pair_inv {k k' : IntKind} {x y : Int} {v : Value} (h : R ρ (.agg [.int k x, .int k' y]) v) : v = .agg #[.int k x, .int k' y] := by
  obtain ⟨cs, rfl, hl⟩ := h.toAgg
  obtain ⟨u, r, e1, h1, h2⟩ := hl.uncons
  obtain ⟨u2, r2, e2, h3, h4⟩ := h2.uncons
  obtain rfl := h1.int_inv
  obtain rfl := h3.int_inv
  have : r2 = [] := by have := h4.1; cases r2 with | nil => rfl | cons => simp at this
  subst this
  subst e2
  congr 1
  apply Array.ext'
  rw [e1]

theorem keyWf_pair {x : V} (h : keyWf .pair x = true) : ∃ k k' a b, x = .agg [.int k a, .int k' b] := by
  cases x <;> (try (simp [keyWf] at h; done))
  rename_i cs
  match cs, h with
  | [.int k a, .int k' b], _ => exact ⟨k, k', a, b, rfl⟩
theorem keyWf_int {x : V} (h : keyWf .int x = true) : ∃ k a, x = .int k a := by
  cases x <;> (try (simp [keyWf] at h; done))
  exact ⟨_, _, rfl⟩

theorem checkKey_ok {t : TypeId} {kk : KK} (hk : keyOk P t = some kk) {x : V} (hw : keyWf kk x = true) {x' : Value} (hx : R ρ x x') (em : Bool) (w : World) : (Instr.checkKey em 10000 t x').run P w = .ok () w := by
  cases kk with
  | int =>
    obtain ⟨k, hu⟩ := keyInt_u hk
    obtain ⟨k', a, rfl⟩ := keyWf_int hw
    obtain rfl := hx.int_inv
    rw [show (10000 : Nat) = 9999 + 1 from rfl, Instr.checkKey]
    simp [run_underlying hu]
  | pair =>
    obtain ⟨e, k, hu, hs, hue⟩ := keyPair_u hk
    obtain ⟨k1, k2, a, b, rfl⟩ := keyWf_pair hw
    obtain rfl := pair_inv hx
    rw [show (10000 : Nat) = 9999 + 1 from rfl, Instr.checkKey]
    simp only [Sem.run_bind, run_underlying hu, Result.andThen_ok]
    simp only [Std.Legacy.Range.forIn_eq_forIn_range', Std.Legacy.Range.size, Nat.sub_zero, Nat.add_sub_cancel, Nat.div_one, List.range'_succ, List.range'_zero, List.forIn_cons, List.forIn_nil]
    have hc : ∀ (v : Value) (w : World), (Instr.checkKey em 9999 e v).run P w = .ok () w := fun v w => by
      rw [show (9999 : Nat) = 9998 + 1 from rfl, Instr.checkKey]
      simp [run_underlying hue]
    simp [tsize_run hs, part, isAgg, run_underlying hue, hc]

theorem eqPair_ok {t e : TypeId} {k : IntKind} (hu : P.underlying t = some (.array 2 e)) (hs : tsize P e = some 1) (hue : P.underlying e = some (.int k)) (k1 k2 : IntKind) (a b c d : Int) (w : World) :
    (Op.equal t (.agg #[.int k1 a, .int k2 b]) (.agg #[.int k1 c, .int k2 d])).run P w = .ok (a == c && b == d) w := by
  rw [Op.equal, show Op.maxDepth = 9998 + 1 + 1 from rfl, Op.equalIn]
  simp only [Sem.run_bind, run_underlying hu, Result.andThen_ok]
  simp only [Std.Legacy.Range.forIn_eq_forIn_range', Std.Legacy.Range.size, Nat.sub_zero, Nat.add_sub_cancel, Nat.div_one, List.range'_succ, List.range'_zero, List.forIn_cons, List.forIn_nil]
  have hi : ∀ (k : IntKind) (x y : Int) (w : World), (Op.equalIn (9998 + 1) e (.int k x) (.int k y)).run P w = .ok (x == y) w := fun k x y w => run_equalIn_int w 9998 e _ _ x y hue
  simp [tsize_run hs, part, isAgg, run_underlying hue, hi]
  by_cases h1 : a = c <;> by_cases h2 : b = d <;> simp [h1, h2]

theorem keyEq_int_inv {k : IntKind} {a : Int} {y : V} {r : Bool} (h : keyEq (.int k a) y = some r) : ∃ b, y = .int k b ∧ r = (a == b) := by
  cases y <;> simp only [keyEq] at h <;> (try (cases h; done))
  split at h
  · rename_i hkk; subst hkk; cases h; exact ⟨_, rfl, rfl⟩
  · cases h
theorem keyEq_pair_inv {k1 k2 : IntKind} {a b : Int} {y : V} {r : Bool} (h : keyEq (.agg [.int k1 a, .int k2 b]) y = some r) : ∃ c d, y = .agg [.int k1 c, .int k2 d] ∧ r = (a == c && b == d) := by
  unfold keyEq at h
  split at h
  · rename_i e; cases e
  · rename_i e
    injection e with e
    injection e with e1 e
    injection e with e2 e
    injection e1 with e11 e12
    injection e2 with e21 e22
    subst e11; subst e12; subst e21; subst e22
    split at h
    · rename_i hkk; obtain ⟨rfl, rfl⟩ := hkk; cases h; exact ⟨_, _, rfl, rfl⟩
    · cases h
  · cases h

theorem keyEq_ok {t : TypeId} {kk : KK} (hk : keyOk P t = some kk) {x y : V} (hw : keyWf kk x = true) {x' y' : Value} (hx : R ρ x x') (hy : R ρ y y') {r : Bool} (h : keyEq x y = some r) (w : World) :
    (Op.equal t x' y').run P w = .ok r w ∧ (kk = .int → ∀ k, Instr.sameNow (.int k) x' y' = some r) ∧ (kk = .pair → ∀ n e, Instr.sameNow (.array n e) x' y' = none) := by
  cases kk with
  | int =>
    obtain ⟨k, hu⟩ := keyInt_u hk
    obtain ⟨k', a, rfl⟩ := keyWf_int hw
    obtain rfl := hx.int_inv
    obtain ⟨b, rfl, rfl⟩ := keyEq_int_inv h
    obtain rfl := hy.int_inv
    exact ⟨run_equalIn_int w 9999 t k' k a b hu, fun _ k => by simp [Instr.sameNow], fun hh => by cases hh⟩
  | pair =>
    obtain ⟨e, k, hu, hs, hue⟩ := keyPair_u hk
    obtain ⟨k1, k2, a, b, rfl⟩ := keyWf_pair hw
    obtain rfl := pair_inv hx
    obtain ⟨c, d, rfl, rfl⟩ := keyEq_pair_inv h
    obtain rfl := pair_inv hy
    exact ⟨eqPair_ok hu hs hue _ _ _ _ _ _ w, ⟨(fun hh => by cases hh), fun _ n e => rfl⟩⟩

theorem keyEq_true {kk : KK} {x y : V} (hw : keyWf kk x = true) {x' y' : Value} (hx : R ρ x x') (hy : R ρ y y') (h : keyEq x y = some true) : Instr.sameBits 10000 y' x' = true ∧ R ρ x y' := by
  cases kk with
  | int =>
    obtain ⟨k', a, rfl⟩ := keyWf_int hw
    obtain rfl := hx.int_inv
    obtain ⟨b, rfl, hr⟩ := keyEq_int_inv h
    simp at hr; subst hr
    exact ⟨by rw [hy.int_inv]; simp [Instr.sameBits], hy⟩
  | pair =>
    obtain ⟨k1, k2, a, b, rfl⟩ := keyWf_pair hw
    obtain rfl := pair_inv hx
    obtain ⟨c, d, rfl, hr⟩ := keyEq_pair_inv h
    simp at hr
    obtain ⟨rfl, rfl⟩ := hr
    exact ⟨by rw [pair_inv hy]; simp [Instr.sameBits], hy⟩

/-- The entries of a map, and where a key stands. -/
theorem find_ok {t : TypeId} {kk : KK} (hk : keyOk P t = some kk) {x : V} (hw : keyWf kk x = true) {x' : Value} (hx : R ρ x x') (w : World) : ∀ (es : List (V × V)) (en : List MapEntry) (i : Nat) (r : Option (Nat × V)), es.length = en.length →
    (∀ (j : Nat) (kv : V × V), es[j]? = some kv → ∃ e, en[j]? = some e ∧ R ρ kv.1 e.key ∧ R ρ kv.2 e.val) → findk x es i = some r →
    ∃ r', (∀ k, kk = .int → Instr.findNow (.int k) x' en i = some r') ∧ (Instr.findAsking t x' en i).run P w = .ok r' w ∧
      (match r with | none => r' = none | some (j, v) => ∃ v', r' = some (j, v') ∧ R ρ v v' ∧ ∃ e, i ≤ j ∧ en[j - i]? = some e ∧ e.val = v' ∧ (Instr.sameBits 10000 e.key x' = true) ∧ R ρ x e.key)
  | [], en, i, r, hl, he, h => by
    have : en = [] := by simpa using hl.symm
    subst this
    simp [findk] at h; subst h
    exact ⟨none, fun k _ => rfl, by simp [Instr.findAsking], rfl⟩
  | kv :: es, [], i, r, hl, he, h => by simp at hl
  | kv :: es, e :: en, i, r, hl, he, h => by
    obtain ⟨e', h1, h2, h3⟩ := he 0 kv rfl
    cases h1
    simp only [findk] at h
    cases hke : keyEq x kv.1 with
    | none => simp [hke] at h
    | some b =>
      obtain ⟨hq1, hq2, hq3⟩ := keyEq_ok hk hw hx h2 hke w
      cases b with
      | true =>
        simp only [hke, Option.some.injEq] at h
        subst h
        obtain ⟨s1, s2⟩ := keyEq_true hw hx h2 hke
        exact ⟨some (i, e.val), fun k hkk => by simp [Instr.findNow, hq2 hkk k], by simp [Instr.findAsking, hq1], e.val, rfl, h3, e, Nat.le_refl _, by simp, rfl, s1, s2⟩
      | false =>
        simp only [hke] at h
        obtain ⟨r', i1, i2, i3⟩ := find_ok hk hw hx w es en (i + 1) r (by simpa using hl) (fun j kv' hj => by have := he (j + 1) kv' (by simpa using hj); simpa using this) h
        refine ⟨r', fun k hkk => by simp [Instr.findNow, hq2 hkk k, i1 k hkk], by simp [Instr.findAsking, hq1, i2], ?_⟩
        cases r with
        | none => exact i3
        | some jv =>
          obtain ⟨j, v⟩ := jv
          obtain ⟨v', j1, j2, e2, j3, j4, j5⟩ := i3
          refine ⟨v', j1, j2, e2, by omega, ?_, j5⟩
          obtain ⟨d, hd⟩ : ∃ d, j - i = d + 1 := ⟨j - i - 1, by omega⟩
          rw [hd]
          rw [show j - (i + 1) = d by omega] at j4
          simpa using j4

theorem findKey_ok {t : TypeId} {kk : KK} (hk : keyOk P t = some kk) {x : V} (hw : keyWf kk x = true) {x' : Value} (hx : R ρ x x') (w : World) {es : List (V × V)} {en : Array MapEntry} {cl : Nat} (hm : MapOk ρ es en cl) {r : Option (Nat × V)}
    (h : findk x es 0 = some r) : ∃ r', (Instr.findKey t x' en.toList).run P w = .ok r' w ∧
      (match r with | none => r' = none | some (j, v) => ∃ v', r' = some (j, v') ∧ R ρ v v' ∧ ∃ e, en[j]? = some e ∧ e.val = v' ∧ (Instr.sameBits 10000 e.key x' = true) ∧ R ρ x e.key) := by
  obtain ⟨r', h1, h2, h3⟩ := find_ok hk hw hx w es en.toList 0 r (by have := hm.1; simp; omega) (fun j kv hj => by
    obtain ⟨e, a1, a2, a3, _⟩ := hm.2.2 j kv hj
    exact ⟨e, by simpa using a1, a2, a3⟩) h
  refine ⟨r', ?_, ?_⟩
  · cases kk with
    | int =>
      obtain ⟨k, hu⟩ := keyInt_u hk
      simp [Instr.findKey, run_underlying hu, h1 k rfl]
    | pair =>
      obtain ⟨e, k, hu, hs, hue⟩ := keyPair_u hk
      simp only [Instr.findKey, Sem.run_bind, run_underlying hu, Result.andThen_ok]
      split
      · rename_i r2 hr2
        cases hl : en.toList with
        | nil =>
          rw [hl] at hr2 h2
          simp [Instr.findNow] at hr2; subst hr2
          simp [Instr.findAsking] at h2; subst h2; rfl
        | cons e0 en0 =>
          exfalso
          rw [hl] at hr2
          cases es with
          | nil => have := hm.1; rw [← Array.length_toList, hl] at this; simp at this
          | cons kv es0 =>
            obtain ⟨e1, a1, a2, a3, _⟩ := hm.2.2 0 kv rfl
            have : e1 = e0 := by
              have : en.toList[0]? = some e1 := by simpa using a1
              rw [hl] at this; simpa using this.symm
            subst this
            simp only [findk] at h
            cases hke : keyEq x kv.1 with
            | none => simp [hke] at h
            | some b =>
              have := (keyEq_ok hk hw hx a2 hke w).2.2 rfl 2 e
              simp [Instr.findNow, this] at hr2
      · exact h2
  · cases r with
    | none => exact h3
    | some jv =>
      obtain ⟨j, v⟩ := jv
      obtain ⟨v', j1, j2, e2, _, j4, j5⟩ := h3
      exact ⟨v', j1, j2, e2, by simpa using j4, j5⟩
end Go.Ar
/- Each operation but a call: what the abstract run answers, the machine's operation answers. Sixth part: maps; all operations together. -/
set_option linter.unusedSimpArgs false
set_option linter.unusedVariables false
namespace Go.Ar
open Go.RowKit
variable {P : Program} {B0 : Nat} {w0 : World} {ρ : Rho} {H : Heap} {D : List Nat} {w : World} {nt : Nat} {τ : Nat → V} {a : Act}

theorem lk_of {t : TypeId} {z : V} (h : lk P t = some z) (ρ : Rho) : ∃ v, (∀ w, (zeroValue t).run P w = .ok v w) ∧ R ρ z v := by
  unfold lk at h
  split at h
  · rename_i i hi
    split at h
    · rename_i v hv
      split at h
      · cases h; exact ⟨v, tzero_run hi hv, absS_ok ρ v⟩
      · cases h
    · cases h
  · cases h

theorem mp_of (hS : Sim P B0 w0 ρ H D w) {k : Nat} {es : List (V × V)} (h : mpAt H k = some es) : H[k]? = some (.mp es) ∧ ∃ L en cl, ρ k = some L ∧ w.heap[L.blk]? = some (.map en cl) ∧ B0 ≤ L.blk ∧ MapOk ρ es en cl := by
  unfold mpAt at h
  split at h
  · rename_i es' hk
    cases h
    obtain ⟨L, h1, en, cl, h2, h3, h4⟩ := hS.blk k _ hk rfl
    exact ⟨hk, L, en, cl, h1, h2, h3, h4⟩
  · cases h

theorem getMap_run {r : Nat} {es : Array MapEntry} {cl : Nat} (hb : w.heap[r]? = some (.map es cl)) : (getObj r).run P w = .ok (.map es cl) w := by simp [getObj, Sem.run, hb]
theorem setMap_run {r : Nat} {es : Array MapEntry} {cl : Nat} (o : Obj) (hb : w.heap[r]? = some (.map es cl)) : (setObj r o).run P w = .ok () { w with heap := w.heap.setIfInBounds r o } := by simp [setObj, Sem.run, hb]

theorem op_lookup (hS : Sim P B0 w0 ρ H D w) {t kt et : TypeId} (hu : P.underlying t = some (.map kt et)) {kk : KK} (hk : keyOk P kt = some kk) {z : V} (hz : lk P et = some z) {m x : V} {m' x' : Value} (hm : R ρ m m') (hx : R ρ x x')
    {es : List (V × V)} (he : mapOf H m = some es) {r : Option (Nat × V)} (hf : keyf kk x es = some r) (ok : Bool) :
    ∃ v', (Instr.lookup t m' x' ok).run P w = .ok v' w ∧ R ρ (match r with | some (_, v) => cond ok (.tup [v, .bool true]) v | none => cond ok (.tup [z, .bool false]) z) v' := by
  unfold keyf at hf
  split at hf
  case isFalse => cases hf
  rename_i hw
  obtain ⟨zv, hzv, hzr⟩ := lk_of hz ρ
  have tupOk : ∀ (v : V) (v' : Value) (b : Bool), R ρ v v' → R ρ (.tup [v, .bool b]) (.tuple #[v', .bool b]) := fun v v' b h => R.ofTup (RL.cons h (RL.cons (R.bool b) (RL.nil _)))
  have key : ∃ en : Array MapEntry, ∃ cl, MapOk ρ es en cl ∧ ((m' = .map none ∧ en = #[]) ∨ ∃ mb, m' = .map (some mb) ∧ w.heap[mb]? = some (.map en cl)) := by
    cases hm <;> simp [mapOf] at he
    · subst he; exact ⟨#[], 0, ⟨rfl, rfl, fun i kv h => by simp at h⟩, .inl ⟨rfl, rfl⟩⟩
    · rename_i k L hL
      obtain ⟨_, L', en, cl, h1, h2, _, h4⟩ := mp_of hS he
      rw [hL] at h1; cases h1
      exact ⟨en, cl, h4, .inr ⟨_, rfl, h2⟩⟩
  obtain ⟨en, cl, hmo, hcase⟩ := key
  obtain ⟨r', h1, h2⟩ := findKey_ok hk hw hx w hmo hf
  have hc := checkKey_ok (P := P) hk hw hx en.isEmpty w
  have main : (Instr.lookup t m' x' ok).run P w = (match r' with
      | some (_, v) => .ok (if ok then .tuple #[v, .bool true] else v) w
      | none => .ok (if ok then .tuple #[zv, .bool false] else zv) w) := by
    rcases hcase with ⟨rfl, rfl⟩ | ⟨mb, rfl, hb⟩
    · simp only [Instr.lookup, Sem.run_bind, run_underlying hu, Result.andThen_ok, Sem.run_pure, hc, h1]
      cases r' <;> simp [hzv]
    · simp only [Instr.lookup, Sem.run_bind, run_underlying hu, Result.andThen_ok, Sem.run_pure, getMap_run hb, hc, h1]
      cases r' <;> simp [hzv]
  rw [main]
  cases r with
  | none =>
    obtain rfl := h2
    refine ⟨_, rfl, ?_⟩
    cases ok
    · exact hzr
    · exact tupOk _ _ _ hzr
  | some jv =>
    obtain ⟨j, v⟩ := jv
    obtain ⟨v', rfl, hv, _⟩ := h2
    refine ⟨_, rfl, ?_⟩
    cases ok
    · exact hv
    · exact tupOk _ _ _ hv

theorem heapSet {r : Nat} {o o' : Obj} (hb : w.heap[r]? = some o) : (w.heap.setIfInBounds r o')[r]? = some o' ∧ ∀ r', r' ≠ r → (w.heap.setIfInBounds r o')[r']? = w.heap[r']? := by
  have hlt : r < w.heap.size := (Array.getElem?_eq_some_iff.1 hb).1
  exact ⟨by simp [hlt], fun r' hne => by simp [Ne.symm hne]⟩
/-- The map's block turned. -/
theorem map_set (hS : Sim P B0 w0 ρ H D w) {k : Nat} {es : List (V × V)} (hk : H[k]? = some (.mp es)) {L : Loc} (hL : ρ k = some L) {en : Array MapEntry} {cl : Nat} (hb : w.heap[L.blk]? = some (.map en cl)) (hB : B0 ≤ L.blk)
    {es' : List (V × V)} {en' : Array MapEntry} {cl' : Nat} (hm : MapOk ρ es' en' cl') :
    (setObj L.blk (.map en' cl')).run P w = .ok () { w with heap := w.heap.setIfInBounds L.blk (.map en' cl') } ∧ Sim P B0 w0 ρ (H.set k (.mp es')) D { w with heap := w.heap.setIfInBounds L.blk (.map en' cl') } := by
  obtain ⟨h1, h2⟩ := heapSet (o' := .map en' cl') hb
  exact ⟨setMap_run _ hb, hS.mod hk rfl hL rfl rfl rfl (by simp) h2 fun _ => ⟨en', cl', h1, hB, hm⟩⟩

theorem MapOk.push {es : List (V × V)} {en : Array MapEntry} {cl : Nat} (h : MapOk ρ es en cl) {x v : V} {x' v' : Value} (hx : R ρ x x') (hv : R ρ v v') :
    MapOk ρ (es ++ [(x, v)]) (en.push { key := x', val := v', born := cl }) (cl + 1) := by
  obtain ⟨h1, h2, h3⟩ := h
  refine ⟨by simp [h1], by simp [h2], fun i kv hi => ?_⟩
  by_cases hlt : i < es.length
  · rw [List.getElem?_append_left hlt] at hi
    obtain ⟨e, a1, a2⟩ := h3 i kv hi
    exact ⟨e, by rw [Array.getElem?_push_lt (by omega)]; have := a1; rw [Array.getElem?_eq_getElem (by omega)] at this; exact this, a2⟩
  · rw [List.getElem?_append_right (by omega)] at hi
    have h0 : i - es.length = 0 := by
      by_cases h0 : i - es.length = 0
      · exact h0
      · rw [List.getElem?_eq_none (by simp; omega)] at hi; cases hi
    rw [h0] at hi; cases hi
    have : i = en.size := by omega
    subst this
    exact ⟨{ key := x', val := v', born := cl }, by simp, hx, hv, by show cl = en.size; omega⟩
theorem MapOk.set {es : List (V × V)} {en : Array MapEntry} {cl : Nat} (h : MapOk ρ es en cl) {j : Nat} {e : MapEntry} (he : en[j]? = some e) {x v : V} {f : MapEntry → MapEntry} (hx : R ρ x (f e).key) (hv : R ρ v (f e).val) (hb : (f e).born = e.born) :
    MapOk ρ (es.set j (x, v)) (en.modify j f) cl := by
  obtain ⟨h1, h2, h3⟩ := h
  refine ⟨by simp [h1], by simp [h2], fun i kv hi => ?_⟩
  rw [List.getElem?_set] at hi
  by_cases hij : j = i
  · subst hij
    simp only [if_pos] at hi
    split at hi
    · rename_i hlt
      cases hi
      obtain ⟨e', a1, _, _, a4⟩ := h3 j es[j] (List.getElem?_eq_getElem hlt)
      rw [he] at a1; cases a1
      exact ⟨f e, by rw [Array.getElem?_modify, if_pos rfl, he]; rfl, hx, hv, hb.trans a4⟩
    · cases hi
  · rw [if_neg hij] at hi
    obtain ⟨e', a1, a2⟩ := h3 i kv hi
    exact ⟨e', by rw [Array.getElem?_modify, if_neg hij]; exact a1, a2⟩

theorem stays {old new : Value} (h : Instr.sameBits 10000 old new = true) (w : World) : (Instr.keyThatStays old new).run P w = .ok new w := by
  simp [Instr.keyThatStays, h]

theorem op_mapupd (hS : Sim P B0 w0 ρ H D w) {t kt et : TypeId} (hu : P.underlying t = some (.map kt et)) {kk : KK} (hk : keyOk P kt = some kk) {k : Nat} {x v : V} {m' x' v' : Value} (hm : R ρ (.map k) m') (hx : R ρ x x') (hv : R ρ v v')
    {es : List (V × V)} (he : mpAt H k = some es) {r : Option (Nat × V)} (hf : keyf kk x es = some r) :
    ∃ w', (Instr.mapUpdate t m' x' v').run P w = .ok () w' ∧ Sim P B0 w0 ρ (H.set k (.mp (match r with | some (i, _) => es.set i (x, v) | none => es ++ [(x, v)]))) D w' := by
  unfold keyf at hf
  split at hf
  case isFalse => cases hf
  rename_i hw
  obtain ⟨hk0, L, en, cl, h1, h2, h3, h4⟩ := mp_of hS he
  cases hm with
  | map hL =>
    rw [hL] at h1; cases h1
    obtain ⟨r', f1, f2⟩ := findKey_ok hk hw hx w h4 hf
    have hc := checkKey_ok (P := P) hk hw hx false w
    cases r with
    | none =>
      obtain rfl := f2
      obtain ⟨s1, s2⟩ := map_set hS hk0 hL h2 h3 (h4.push hx hv)
      refine ⟨_, ?_, s2⟩
      simp only [Instr.mapUpdate, Sem.run_bind, run_underlying hu, Result.andThen_ok, getMap_run h2, hc, f1]
      exact s1
    | some jv =>
      obtain ⟨j, u⟩ := jv
      obtain ⟨u', rfl, hu', e, a1, a2, a3, a4⟩ := f2
      obtain ⟨s1, s2⟩ := map_set hS hk0 hL h2 h3 (h4.set (f := fun e => { e with key := x', val := v' }) a1 hx hv rfl)
      refine ⟨_, ?_, s2⟩
      simp only [Instr.mapUpdate, Sem.run_bind, run_underlying hu, Result.andThen_ok, getMap_run h2, hc, f1, a1, Option.map_some, Option.getD_some, stays a3]
      exact s1

theorem op_mapent (hS : Sim P B0 w0 ρ H D w) {t kt et : TypeId} (hu : P.underlying t = some (.map kt et)) {kk : KK} (hk : keyOk P kt = some kk) {z : V} (hz : lk P et = some z) {k : Nat} {x : V} {m' x' : Value} (hm : R ρ (.map k) m') (hx : R ρ x x')
    {es : List (V × V)} (he : mpAt H k = some es) {r : Option (Nat × V)} (hf : keyf kk x es = some r) :
    ∃ v' w', (Instr.mapEntry t m' x').run P w = .ok v' w' ∧ R ρ (match r with | some (i, v) => .tup [v, .int .i64 i] | none => .tup [z, .int .i64 es.length]) v' ∧
      Sim P B0 w0 ρ (H.set k (.mp (match r with | some (i, v) => es.set i (x, v) | none => es ++ [(x, z)]))) D w' := by
  unfold keyf at hf
  split at hf
  case isFalse => cases hf
  rename_i hw
  obtain ⟨hk0, L, en, cl, h1, h2, h3, h4⟩ := mp_of hS he
  obtain ⟨zv, hzv, hzr⟩ := lk_of hz ρ
  have tupOk : ∀ (v : V) (v' : Value) (n : Nat), R ρ v v' → R ρ (.tup [v, .int .i64 n]) (.tuple #[v', goInt n]) := fun v v' n h => R.ofTup (RL.cons h (RL.cons (R.int _ _) (RL.nil _)))
  cases hm with
  | map hL =>
    rw [hL] at h1; cases h1
    obtain ⟨r', f1, f2⟩ := findKey_ok hk hw hx w h4 hf
    have hc := checkKey_ok (P := P) hk hw hx false w
    cases r with
    | none =>
      obtain rfl := f2
      obtain ⟨s1, s2⟩ := map_set hS hk0 hL h2 h3 (h4.push hx hzr)
      refine ⟨.tuple #[zv, goInt cl], _, ?_, ?_, s2⟩
      · simp only [Instr.mapEntry, Sem.run_bind, run_underlying hu, Result.andThen_ok, getMap_run h2, hc, f1, hzv]
        rw [s1]
        rfl
      · have := tupOk z zv es.length hzr; rw [← h4.2.1] at this ⊢; exact this
    | some jv =>
      obtain ⟨j, u⟩ := jv
      obtain ⟨u', rfl, hu', e, a1, a2, a3, a4⟩ := f2
      have hborn : e.born = j := by
        have hlt : j < es.length := by have := (Array.getElem?_eq_some_iff.1 a1).1; rw [h4.1] at this; exact this
        obtain ⟨e', b1, _, _, b4⟩ := h4.2.2 j es[j] (List.getElem?_eq_getElem hlt)
        rw [a1] at b1; cases b1; exact b4
      obtain ⟨s1, s2⟩ := map_set hS hk0 hL h2 h3 (h4.set (f := fun e => { e with key := x' }) a1 hx (show R ρ u e.val by rw [a2]; exact hu') rfl)
      refine ⟨.tuple #[u', goInt (j : Nat)], _, ?_, tupOk _ _ _ hu', s2⟩
      simp only [Instr.mapEntry, Sem.run_bind, run_underlying hu, Result.andThen_ok, getMap_run h2, hc, f1, a1, Option.map_some, Option.getD_some, stays a3]
      rw [s1]
      simp [hborn]

theorem op_entst (hS : Sim P B0 w0 ρ H D w) {t : TypeId} {k : Nat} {n : Int} {q : IntKind} {v : V} {m' v' : Value} (hm : R ρ (.map k) m') (hv : R ρ v v') {es : List (V × V)} (he : mpAt H k = some es) {e0 : V × V} (hn : es[n.toNat]? = some e0) (h0 : 0 ≤ n) :
    ∃ w', (Instr.entryStore t m' (.int q n) v').run P w = .ok () w' ∧ Sim P B0 w0 ρ (H.set k (.mp (es.set n.toNat (e0.1, v)))) D w' := by
  obtain ⟨hk0, L, en, cl, h1, h2, h3, h4⟩ := mp_of hS he
  cases hm with
  | map hL =>
    rw [hL] at h1; cases h1
    obtain ⟨e, a1, a2, a3, a4⟩ := h4.2.2 _ _ hn
    obtain ⟨s1, s2⟩ := map_set hS hk0 hL h2 h3 (h4.set (f := fun e => { e with val := v' }) a1 a2 hv rfl)
    refine ⟨_, ?_, s2⟩
    have hlt := (Array.getElem?_eq_some_iff.1 a1).1
    have hfi : en.findIdx? (fun e => (e.born : Int) == n) = some n.toNat := by
      rw [Array.findIdx?_eq_some_iff_getElem]
      refine ⟨hlt, ?_, fun j hj => ?_⟩
      · have : en[n.toNat] = e := (Array.getElem?_eq_some_iff.1 a1).2
        rw [this, a4]; simp; omega
      · have hje : j < es.length := by rw [← h4.1]; omega
        obtain ⟨e', b1, _, _, b4⟩ := h4.2.2 j es[j] (List.getElem?_eq_getElem hje)
        have : en[j] = e' := (Array.getElem?_eq_some_iff.1 b1).2
        rw [this, b4]; simp; omega
    simp only [Instr.entryStore, Sem.run_bind, getMap_run h2, Result.andThen_ok, asInt, asIntOf, Sem.run_pure, hfi]
    exact s1
end Go.Ar
/- All operations but calls of functions: what the abstract run answers, the machine's operation answers. -/
set_option linter.unusedSimpArgs false
set_option linter.unusedVariables false
namespace Go.Ar
open Go.RowKit
variable {P : Program} {B0 : Nat} {w0 : World} {ρ : Rho} {H : Heap} {D : List Nat} {w : World} {nt : Nat} {τ : Nat → V} {a : Act} {call : CallF}

theorem optB_some {α : Type} {o : Option α} {f : α → I} {r : V × Heap} (h : aop call τ H (optB o f) = some r) : ∃ x, o = some x ∧ aop call τ H (f x) = some r := by
  cases o with
  | none => simp [optB, aop] at h
  | some x => exact ⟨x, rfl, h⟩

theorem Res.pureV (hS : Sim P B0 w0 ρ H D w) {v : V} {v' : Value} (hR : R ρ v v') {r : V × Heap} (h : some (v, H) = some r) : Res P B0 w0 D ρ H w (pure (.value v')) r.1 r.2 := by
  cases h; exact ⟨.value v', w, ρ, rfl, .inl ⟨v', rfl, hR⟩, Agree.refl _ _, hS⟩

theorem eqOp_form {t : TypeId} {ne : Bool} {x y : X} {r : V × Heap} (h : aop call τ H (eqOp P t ne x y) = some r) : ∃ e, eqOp P t ne x y = .eq ne e x y := by
  unfold eqOp at h ⊢
  split <;> (try exact ⟨_, rfl⟩)
  · rename_i fs hu
    simp only [hu] at h
    obtain ⟨ks, hk, _⟩ := optB_some h
    exact ⟨_, by rw [hk]; rfl⟩
  · exfalso
    split at h <;> first | (rename_i hn _ hu; exact hn _ hu) | (simp [aop] at h; done) | skip
    all_goals simp_all

set_option maxHeartbeats 1000000 in
theorem op_ok (hS : Sim P B0 w0 ρ H D w) (hτ : RT ρ nt τ a.tmps) (o : Oper) (hnc : ∀ f args, compOp P o ≠ .call f args) {r : V × Heap} (h : aop call τ H (compOp P o) = some r) :
    Res P B0 w0 D ρ H w (execOp a.eval o) r.1 r.2 := by
  obtain ⟨dst, op, type, pos, after, guard⟩ := o
  have E := fun x => ev_ok hτ x
  cases op <;> simp only [compOp] at h hnc <;> (try (simp [aop] at h; done)) <;> simp only [execOp]
  case move x => simp only [aop] at h; exact Res.pureV hS (E x) h
  case assign x => simp only [aop] at h; exact Res.pureV hS (E x) h
  case pick c x y =>
    simp only [aop] at h
    have hc := E c
    cases hcv : ev τ (cX c) <;> simp only [hcv] at h hc <;> (try (cases h; done))
    rename_i b
    rw [hc.bool_inv]
    simp only [asBool, pure_bind]
    cases b
    · exact Res.pureV hS (E y) h
    · exact Res.pureV hS (E x) h
  case alloc t =>
    obtain ⟨zs, hz, h⟩ := optB_some h
    simp only [aop] at h
    cases h
    exact op_alloc hS hz
  case box t x =>
    obtain ⟨n, hn, h⟩ := optB_some h
    simp only [aop] at h
    cases hc : (ev τ (cX x)).cells with
    | none => simp [hc] at h
    | some cs =>
      simp only [hc] at h
      split at h
      · cases h; exact op_box hS (E x) hc
      · cases h
  case build t parts =>
    obtain ⟨zs, hz, h⟩ := optB_some h
    split at h
    · rename_i fields hu
      split at h
      · rename_i hall
        obtain ⟨ps, hps, h⟩ := optB_some h
        simp only [aop, Option.map_eq_some_iff] at h
        obtain ⟨cs, h1, rfl⟩ := h
        exact op_build_struct hS hτ hz hu hall hps h1
      · simp [aop] at h
    · rename_i len e hu
      obtain ⟨n, hn, h⟩ := optB_some h
      simp only [aop, Option.map_eq_some_iff] at h
      obtain ⟨cs, h1, rfl⟩ := h
      exact op_build_array hS hτ hz hu hn h1
    · simp [aop] at h
  case buildSlice t len parts =>
    obtain ⟨e, he, h⟩ := optB_some h
    obtain ⟨n, hn, h⟩ := optB_some h
    obtain ⟨zs, hz, h⟩ := optB_some h
    split at h
    · rename_i hc
      simp only [aop, Option.map_eq_some_iff] at h
      obtain ⟨cs, h1, rfl⟩ := h
      obtain ⟨cs', h2, h3⟩ := op_bslice hS hτ he hn hz hc.2 hc.1 h1
      exact Res.val h3 R.newSl (agree_ext _ _ _) (hS.newCells h2 e)
    · simp [aop] at h
  case load t x =>
    obtain ⟨n, hn, h⟩ := optB_some h
    obtain ⟨g, hg, h⟩ := optB_some h
    simp only [aop] at h
    have hx := E x
    cases hxv : ev τ (cX x) <;> simp only [hxv] at h hx <;> (try (cases h; done))
    rename_i k o
    obtain ⟨v, h1, h2⟩ : ∃ v, (if g then (rdn H k o n).map V.agg else rd H k o) = some v ∧ r = (v, H) := by
      cases g
      · simp only [Bool.false_eq_true, if_false, Option.map_eq_some_iff] at h ⊢
        obtain ⟨v, h1, h2⟩ := h
        exact ⟨v, h1, h2.symm⟩
      · simp only [if_true, Option.map_eq_some_iff] at h ⊢
        obtain ⟨cs, h1, h2⟩ := h
        exact ⟨_, ⟨cs, h1, rfl⟩, h2.symm⟩
    subst h2
    obtain ⟨v', h3, h4⟩ := op_load hS hn hg hx h1
    exact Res.same hS h3 h4
  case store t x v =>
    obtain ⟨n, hn, h⟩ := optB_some h
    simp only [aop] at h
    have hx := E x
    cases hxv : ev τ (cX x) <;> simp only [hxv] at h hx <;> (try (cases h; done))
    rename_i k o
    cases hc : (ev τ (cX v)).cells with
    | none => simp [hc] at h
    | some cs =>
      simp only [hc] at h
      split at h
      · rename_i hl
        simp only [Option.map_eq_some_iff] at h
        obtain ⟨H', h1, rfl⟩ := h
        exact op_store hS hn hx (E v) hc hl h1
      · cases h
  case nilCheck x =>
    simp only [aop] at h
    have hx := E x
    generalize a.eval x = x' at hx
    cases hxv : ev τ (cX x) <;> simp only [hxv] at h hx <;> (try (cases h; done))
    · have hx' := hx
      cases hx; exact Res.pureV hS hx' h
    · have hx' := hx
      cases hx; exact Res.pureV hS hx' h
    · have hx' := hx
      cases hx; exact Res.pureV hS hx' h
  case binOp op t x y yt =>
    split at h
    · rename_i k hu
      simp only [aop, Option.map_eq_some_iff] at h
      obtain ⟨v, h1, rfl⟩ := h
      obtain ⟨v', h2, h3, n1, n2⟩ := binop_ok (P := P) (E x) (E y) h1 w
      refine Res.same hS ?_ h3
      simp only [Sem.run_bind, eqGuard_run n1 n2, Result.andThen_ok]
      exact h2
    · rename_i hni
      cases op <;> (try (simp [aop] at h; done))
      · simp only at h
        obtain ⟨e, hq⟩ := eqOp_form h
        rw [hq] at h
        simp only [aop, Option.map_eq_some_iff] at h
        obtain ⟨b, h1, rfl⟩ := h
        obtain ⟨hg, he, n1, n2, n3, n4⟩ := eqv_ok (x := x) (y := y) hq (E x) (E y) h1 w
        exact Res.same hS (eqv_run (ne := false) hg he n1 n2 n3 n4) (R.bool _)
      · simp only at h
        obtain ⟨e, hq⟩ := eqOp_form h
        rw [hq] at h
        simp only [aop, Option.map_eq_some_iff] at h
        obtain ⟨b, h1, rfl⟩ := h
        obtain ⟨hg, he, n1, n2, n3, n4⟩ := eqv_ok (x := x) (y := y) hq (E x) (E y) h1 w
        exact Res.same hS (eqv_run (ne := true) hg he n1 n2 n3 n4) (R.bool _)
  case unOp op t x =>
    have hx := E x
    cases op <;> simp only [aop] at h <;> (try (cases h; done)) <;> cases hxv : ev τ (cX x) <;> simp only [hxv] at h hx <;> (try (cases h; done))
    · rename_i k n
      cases h
      refine Res.same (v' := .int k (k.wrap (0 - n))) hS ?_ (R.int _ _)
      rw [hx.int_inv]; simp [Op.unary, Op.intArith]
    · rename_i b
      cases h
      refine Res.same (v' := .bool (!b)) hS ?_ (R.bool _)
      rw [hx.bool_inv]; simp [Op.unary]
  case convert src dst x =>
    split at h
    · rename_i k0 k hs hd
      simp only [aop] at h
      have hx := E x
      cases hxv : ev τ (cX x) <;> simp only [hxv] at h hx <;> (try (cases h; done))
      rename_i q n
      cases h
      refine Res.same (v' := .int k (k.wrap n)) hS ?_ (R.int _ _)
      rw [hx.int_inv]; simp [convert, run_underlying hs, run_underlying hd, Conv.intToInt]
    · simp [aop] at h
  case makeFunc fn x y =>
    cases fn <;> simp only [aop] at h <;> (try (cases h; done))
    rename_i f
    cases h
    exact Res.same hS rfl (op_mkfn hτ f x y)
  case makeMap t rsv =>
    cases rsv <;> simp only [aop] at h <;> (try (cases h; done))
    cases h
    have hr : (Instr.makeMap t none).run P w = .ok (.map (some w.heap.size)) (w.alloc (.map #[] 0)) := by simp [Instr.makeMap]
    refine Res.val (ρ' := ext ρ H.length (newLoc w)) hr ?_ (agree_ext _ _ _) (hS.new _ _ _ rfl fun _ => ⟨#[], 0, World.alloc_heap_new w _, hS.sizeLe, rfl, rfl, fun i kv hi => by simp at hi⟩)
    have := @R.map (ext ρ H.length (newLoc w)) H.length (newLoc w) (by simp [ext])
    simpa [newLoc] using this
  case makeSlice t l c =>
    cases l <;> cases c <;> (try (simp [aop] at h; done))
    rename_i l c
    simp only at h
    split at h
    case isFalse => simp [aop] at h
    rename_i hlc
    subst hlc
    obtain ⟨e, he, h⟩ := optB_some h
    split at h
    case h_2 => simp [aop] at h
    rename_i i hi
    split at h
    case isFalse => simp [aop] at h
    rename_i hsz
    obtain ⟨zs, hz, h⟩ := optB_some h
    simp only [aop] at h
    have hx := E (.tmp l)
    simp only [cX] at hx
    cases hxv : ev τ (.t l) <;> simp only [hxv] at h hx <;> (try (cases h; done))
    rename_i k n
    split at h
    case isFalse => cases h
    rename_i hc
    cases h
    obtain ⟨cs', h1, h2⟩ := op_mkslice (kk := k) hS he hi hsz hz hc.1 hc.2.1 hc.2.2
    rw [← hx.int_inv] at h2
    exact Res.val h2 R.newSl (agree_ext _ _ _) (hS.newCells h1 e)
  case slice t x lo hi mx =>
    cases mx <;> simp only at h <;> (try (simp [aop] at h; done))
    obtain ⟨e, he, h⟩ := optB_some h
    obtain ⟨n, hn, h⟩ := optB_some h
    simp only [aop, Option.map_eq_some_iff] at h
    obtain ⟨v, h1, rfl⟩ := h
    have ho : ∀ o : Option Operand, (∀ v, (o.map cX).map (ev τ) = some v → ∃ v', o.map a.eval = some v' ∧ R ρ v v') ∧ ((o.map cX).map (ev τ) = none → o.map a.eval = none) := by
      intro o
      cases o with
      | none => exact ⟨fun v hv => by simp at hv, fun _ => rfl⟩
      | some q => exact ⟨fun v hv => ⟨_, rfl, by simp at hv; subst hv; exact E q⟩, fun hv => by simp at hv⟩
    obtain ⟨v', h2, h3⟩ := op_slc hS he hn (E x) (ho lo).1 (ho lo).2 (ho hi).1 (ho hi).2 h1
    exact Res.same hS h2 h3
  case fieldAddr t x f =>
    split at h
    case h_2 => simp [aop] at h
    rename_i fs hu
    split at h
    case h_2 => simp [aop] at h
    rename_i fd hfd
    split at h
    case h_2 => simp [aop] at h
    rename_i n hn
    split at h
    case isTrue => simp [aop] at h
    rename_i hn0
    simp only [aop] at h
    have hx := E x
    cases hxv : ev τ (cX x) <;> simp only [hxv] at h hx <;> (try (cases h; done))
    rename_i k o
    cases h
    generalize a.eval x = x' at hx
    cases hx with
    | ptr hL =>
      rename_i L
      refine Res.same (v' := .pointer (some ⟨L.blk, L.base + (o + fd.offset), none⟩)) hS ?_ (R.ptr hL)
      simp [Instr.fieldAt, run_underlying hu, hfd, Instr.sureAddr, fieldPlace, tsize_run hn, hn0, add_at, Nat.add_assoc]
  case field t x f =>
    split at h
    case h_2 => simp [aop] at h
    rename_i fs hu
    split at h
    case h_2 => simp [aop] at h
    rename_i fd hfd
    obtain ⟨n, hn, h⟩ := optB_some h
    obtain ⟨g, hg, h⟩ := optB_some h
    simp only [aop] at h
    have hx := E x
    cases hxv : ev τ (cX x) <;> simp only [hxv] at h hx <;> (try (cases h; done))
    rename_i cs
    obtain ⟨cs', hcs, hl⟩ := hx.toAgg
    rw [hcs]
    cases g
    · simp only [Bool.false_eq_true, if_false, Option.map_eq_some_iff] at h
      obtain ⟨v, h1, rfl⟩ := h
      obtain ⟨v', h2, h3⟩ := hl.get h1
      refine Res.same (v' := v') hS ?_ h3
      have h2' : cs'[fd.offset]? = some v' := by simpa using h2
      simp [Instr.field, run_underlying hu, hfd, asAgg, part, tagg_run hg, h2']
    · simp only [if_true] at h
      cases h
      refine Res.same (v' := .agg (cs'.extract fd.offset (fd.offset + n))) hS ?_ (R.ofAgg ?_)
      · simp [Instr.field, run_underlying hu, hfd, asAgg, part, tagg_run hg, tsize_run hn]
      · have := (hl.drop fd.offset).take n
        simpa [Array.toList_extract, List.extract_eq_take_drop] using this
  case indexAddr t x i =>
    obtain ⟨e, he, h⟩ := optB_some h
    obtain ⟨n, hn, h⟩ := optB_some h
    simp only [aop] at h
    have hx := E x
    have hi := E i
    cases hxv : ev τ (cX x) <;> simp only [hxv] at h hx <;> (try (cases h; done))
    rename_i k o len cap
    cases hiv : ev τ (cX i) <;> simp only [hiv] at h hi <;> (try (cases h; done))
    rename_i q m
    split at h
    case isFalse => cases h
    rename_i hb
    cases h
    rw [hi.int_inv]
    generalize a.eval x = x' at hx
    cases hx with
    | sl hL hc =>
      rename_i c' L
      refine Res.same (v' := .pointer (some ⟨L.blk, L.base + (o + m.toNat * n), none⟩)) hS ?_ (R.ptr hL)
      rw [run_indexAt_slice w t _ _ _ _ _ (telem_elem he).1, if_pos hb, (telem_elem he).2, tsize_run hn]
      simp [add_at, Nat.add_assoc]
  case index t x i =>
    split at h
    case h_2 => simp [aop] at h
    rename_i len e hu
    obtain ⟨n, hn, h⟩ := optB_some h
    obtain ⟨g, hg, h⟩ := optB_some h
    simp only [aop] at h
    have hx := E x
    have hi := E i
    cases hxv : ev τ (cX x) <;> simp only [hxv] at h hx <;> (try (cases h; done))
    rename_i cs
    cases hiv : ev τ (cX i) <;> simp only [hiv] at h hi <;> (try (cases h; done))
    rename_i q m
    split at h
    case isFalse => cases h
    rename_i hb
    rw [hi.int_inv]
    obtain ⟨cs', hcs, hl⟩ := hx.toAgg
    rw [hcs]
    cases g
    · simp only [Bool.false_eq_true, if_false, Option.map_eq_some_iff] at h
      obtain ⟨v, h1, rfl⟩ := h
      obtain ⟨v', h2, h3⟩ := hl.get h1
      refine Res.same (v' := v') hS ?_ h3
      have h2' : cs'[m.toNat * n]? = some v' := by simpa using h2
      simp [Instr.index, asIntOf, run_underlying hu, hb, tsize_run hn, part, tagg_run hg, h2']
    · simp only [if_true] at h
      cases h
      refine Res.same (v' := .agg (cs'.extract (m.toNat * n) (m.toNat * n + n))) hS ?_ (R.ofAgg ?_)
      · simp [Instr.index, asIntOf, run_underlying hu, hb, tsize_run hn, part, tagg_run hg]
      · have := (hl.drop (m.toNat * n)).take n
        simpa [Array.toList_extract, List.extract_eq_take_drop] using this
  case lookup t m k ok =>
    split at h
    case h_2 => simp [aop] at h
    rename_i kt et hu
    obtain ⟨kk, hk, h⟩ := optB_some h
    obtain ⟨z, hz, h⟩ := optB_some h
    simp only [aop] at h
    split at h
    case h_2 => cases h
    rename_i es hes
    split at h
    · rename_i j v hf
      cases h
      obtain ⟨v', h1, h2⟩ := op_lookup hS hu hk hz (E m) (E k) hes hf ok
      exact Res.same hS h1 h2
    · rename_i hf
      cases h
      obtain ⟨v', h1, h2⟩ := op_lookup hS hu hk hz (E m) (E k) hes hf ok
      exact Res.same hS h1 h2
    · cases h
  case mapUpdate t m k v =>
    split at h
    case h_2 => simp [aop] at h
    rename_i kt et hu
    obtain ⟨kk, hk, h⟩ := optB_some h
    simp only [aop] at h
    have hm := E m
    cases hmv : ev τ (cX m) <;> simp only [hmv] at h hm <;> (try (cases h; done))
    rename_i b
    split at h
    case h_2 => cases h
    rename_i es hes
    split at h
    · rename_i j u hf
      cases h
      obtain ⟨w', h1, h2⟩ := op_mapupd hS hu hk hm (E k) (E v) hes hf
      exact Res.unit h1 h2
    · rename_i hf
      cases h
      obtain ⟨w', h1, h2⟩ := op_mapupd hS hu hk hm (E k) (E v) hes hf
      exact Res.unit h1 h2
    · cases h
  case mapEntry t m k =>
    split at h
    case h_2 => simp [aop] at h
    rename_i kt et hu
    obtain ⟨kk, hk, h⟩ := optB_some h
    obtain ⟨z, hz, h⟩ := optB_some h
    simp only [aop] at h
    have hm := E m
    cases hmv : ev τ (cX m) <;> simp only [hmv] at h hm <;> (try (cases h; done))
    rename_i b
    split at h
    case h_2 => cases h
    rename_i es hes
    split at h
    · rename_i j u hf
      cases h
      obtain ⟨v', w', h1, h2, h3⟩ := op_mapent hS hu hk hz hm (E k) hes hf
      exact Res.val h1 h2 (Agree.refl _ _) h3
    · rename_i hf
      cases h
      obtain ⟨v', w', h1, h2, h3⟩ := op_mapent hS hu hk hz hm (E k) hes hf
      exact Res.val h1 h2 (Agree.refl _ _) h3
    · cases h
  case entryStore t m s v =>
    simp only [aop] at h
    have hm := E m
    have hs := E s
    cases hmv : ev τ (cX m) <;> simp only [hmv] at h hm <;> (try (cases h; done))
    rename_i b
    cases hsv : ev τ (cX s) <;> simp only [hsv] at h hs <;> (try (cases h; done))
    rename_i q n
    split at h
    case h_2 => cases h
    rename_i es hes
    split at h
    case h_2 => cases h
    rename_i e0 he0
    split at h
    case isFalse => cases h
    rename_i h0
    cases h
    rw [hs.int_inv]
    obtain ⟨w', h1, h2⟩ := op_entst (t := t) (q := q) hS hm (E v) hes he0 h0
    exact Res.unit h1 h2
  case extract x j =>
    simp only [aop] at h
    have hx := E x
    cases hxv : ev τ (cX x) <;> simp only [hxv] at h hx <;> (try (cases h; done))
    rename_i vs
    simp only [Option.map_eq_some_iff] at h
    obtain ⟨v, h1, rfl⟩ := h
    obtain ⟨vs', hvs, hl⟩ := hx.toTup
    obtain ⟨v', h2, h3⟩ := hl.get h1
    rw [hvs]
    refine Res.same (v' := v') hS ?_ h3
    have h2' : vs'[j]? = some v' := by simpa using h2
    simp [Instr.extract, h2']
  case call c =>
    obtain ⟨callee, args, argTypes⟩ := c
    cases callee with
    | value f => exact absurd rfl (hnc _ _)
    | invoke r m => simp [aop] at h
    | builtin b =>
      simp only at h
      have hdone : ∀ (s : Sem Value) , (execOp a.eval { dst := dst, op := .call { callee := .builtin b, args := args, argTypes := argTypes }, type := type, pos := pos, after := after, guard := guard }).run P w = (do pure (.value (← s)) : Sem Next).run P w → Res P B0 w0 D ρ H w (do pure (.value (← s))) r.1 r.2 →
          Res P B0 w0 D ρ H w (execOp a.eval { dst := dst, op := .call { callee := .builtin b, args := args, argTypes := argTypes }, type := type, pos := pos, after := after, guard := guard }) r.1 r.2 := by
        intro s hs hr
        obtain ⟨nx, w', ρ', h1, h2⟩ := hr
        exact ⟨nx, w', ρ', hs.trans h1, h2⟩
      obtain ⟨args⟩ := args
      obtain ⟨argTypes⟩ := argTypes
      simp only at h
      split at h
      · -- len
        rename_i x t
        refine hdone (Builtin.len_ #[t] type #[a.eval x]) (by simp [execOp, resolve, invoke, builtin]) ?_
        have hx := E x
        generalize a.eval x = x' at hx
        split at h
        · rename_i e hu
          simp only [aop] at h
          cases hxv : ev τ (cX x) <;> simp only [hxv] at h hx <;> (try (cases h; done))
          · cases h; cases hx
            exact Res.same (v' := goInt 0) hS (by simp [Builtin.len_, run_underlying hu]) (R.int _ _)
          · cases h; cases hx
            exact Res.same (v' := goInt 0) hS (by simp [Builtin.len_, run_underlying hu]) (R.int _ _)
          · cases h; cases hx
            exact Res.same (v' := goInt _) hS (by simp [Builtin.len_, run_underlying hu]) (R.int _ _)
        · rename_i kt et hu
          simp only [aop, Option.map_eq_some_iff] at h
          obtain ⟨es, hes, rfl⟩ := h
          cases hxv : ev τ (cX x) <;> simp only [hxv, mapOf] at hes hx <;> (try (cases hes; done))
          · cases hes; cases hx
            exact Res.same (v' := goInt 0) hS (by simp [Builtin.len_, run_underlying hu]) (R.int _ _)
          · rename_i k
            obtain ⟨_, L, en, cl, h1, h2, _, h4⟩ := mp_of hS hes
            cases hx with
            | map hL =>
              rw [hL] at h1; cases h1
              refine Res.same (v' := goInt en.size) hS (by simp [Builtin.len_, run_underlying hu, getMap_run h2]) ?_
              rw [h4.1]; exact R.int _ _
        · simp [aop] at h
      · -- append
        rename_i x y t u
        obtain ⟨e, he, hq⟩ := optB_some h
        clear h
        split at hq
        case h_2 => simp [aop] at hq
        rename_i i zs hi hz
        split at hq
        case isFalse => simp [aop] at hq
        rename_i hc
        obtain ⟨c1, c2, c3⟩ := hc
        subst c3
        refine hdone (Builtin.append_ #[u, u] type #[a.eval x, a.eval y]) (by simp [execOp, resolve, invoke, builtin]) ?_
        have hq : appendv H i.size i.bytes (ev τ (cX x)) (ev τ (cX y)) = some (r.1, r.2) := hq
        obtain ⟨v', w', ρ', h1, h2, h3, h4⟩ := op_append (ty := type) hS he hi c1 c2 hz (E x) (E y) hq
        exact Res.val h1 h2 h3 h4
      · -- copy
        rename_i x y t u
        obtain ⟨e, he, h⟩ := optB_some h
        obtain ⟨n, hn, h⟩ := optB_some h
        refine hdone (Builtin.copy_ #[t, u] type #[a.eval x, a.eval y]) (by simp [execOp, resolve, invoke, builtin]) ?_
        simp only [aop] at h
        split at h
        case h_2 => cases h
        rename_i ln lm hln hlm
        split at h
        case h_2 => cases h
        rename_i ys hys
        have hx := E x
        cases hxv : ev τ (cX x) <;> simp only [hxv] at h hx hln <;> (try (cases h; done))
        · cases h
          generalize a.eval x = x' at hx
          cases hx
          exact Res.same (v' := goInt 0) hS (op_copy_nil hS he hn (E y) hlm hys) (R.int _ _)
        · rename_i k o len cap
          simp only [Option.map_eq_some_iff] at h
          obtain ⟨H', hw, rfl⟩ := h
          simp [lenOf] at hln; subst hln
          obtain ⟨w', h1, h2⟩ := op_copy (u := u) (ty := type) hS he hn hx (E y) rfl hlm hys rfl hw
          exact Res.val (v' := goInt (min lm len : Nat)) h1 (by rw [show (min (lm : Int) (len : Int)) = ((min lm len : Nat) : Int) by omega]; exact R.int _ _) (Agree.refl _ _) h2
      · -- min
        rename_i ts x y
        refine hdone (Builtin.min_ ⟨argTypes⟩ type #[a.eval x, a.eval y]) (by simp [execOp, resolve, invoke, builtin]) ?_
        simp only [aop] at h
        have hx := E x
        have hy := E y
        cases hxv : ev τ (cX x) <;> simp only [hxv] at h hx <;> (try (cases h; done))
        cases hyv : ev τ (cX y) <;> simp only [hyv] at h hy <;> (try (cases h; done))
        split at h
        case isFalse => cases h
        rename_i hkk; subst hkk
        cases h
        rw [hx.int_inv, hy.int_inv]
        exact Res.same hS (by simp [Builtin.min_, Builtin.min2]) (R.int _ _)
      · -- max
        rename_i ts x y
        refine hdone (Builtin.max_ ⟨argTypes⟩ type #[a.eval x, a.eval y]) (by simp [execOp, resolve, invoke, builtin]) ?_
        simp only [aop] at h
        have hx := E x
        have hy := E y
        cases hxv : ev τ (cX x) <;> simp only [hxv] at h hx <;> (try (cases h; done))
        cases hyv : ev τ (cX y) <;> simp only [hyv] at h hy <;> (try (cases h; done))
        split at h
        case isFalse => cases h
        rename_i hkk; subst hkk
        cases h
        rw [hx.int_inv, hy.int_inv]
        exact Res.same hS (by simp [Builtin.max_, Builtin.max2]) (R.int _ _)
      · -- clear
        rename_i x t
        obtain ⟨e, he, h⟩ := optB_some h
        obtain ⟨n, hn, h⟩ := optB_some h
        obtain ⟨zs, hz, h⟩ := optB_some h
        split at h
        case isFalse => simp [aop] at h
        rename_i h0
        refine hdone (Builtin.clear_ #[t] type #[a.eval x]) (by simp [execOp, resolve, invoke, builtin]) ?_
        simp only [aop] at h
        have hx := E x
        have htup : R ρ (.tup []) (.tuple #[]) := R.ofTup (RL.nil _)
        cases hxv : ev τ (cX x) <;> simp only [hxv] at h hx <;> (try (cases h; done))
        · cases h
          generalize a.eval x = x' at hx
          cases hx
          exact Res.same hS (op_clear_nil he w) htup
        · rename_i k o len cap
          split at h
          · rename_i hl0; subst hl0
            cases h
            exact Res.same hS (op_clear0 he hx w) htup
          · rename_i hl0
            simp only [Option.map_eq_some_iff] at h
            obtain ⟨H', hw, rfl⟩ := h
            obtain ⟨w', h1, h2⟩ := op_clear (ty := type) hS he hz hn h0 hx hl0 hw
            exact Res.val h1 htup (Agree.refl _ _) h2
      · simp [aop] at h
end Go.Ar
