/- The abstract interpreter: values, instructions, code, heap; its run by rounds; its run without rounds (the limit), by equations. Plain definitions and lemmas: nothing of a program stands here. -/
import Derived.CallsIn
set_option linter.unusedSimpArgs false
set_option linter.unusedVariables false
namespace Go.Ar

/-- Values of the abstract run. 'undef': of which nothing is known. Pointers and slices go to a place (block k, cell o). 'es': an empty slice whose address is not known. -/
inductive V where
  | undef
  | bool (b : Bool)
  | int (k : IntKind) (n : Int)
  | nilp
  | ptr (k o : Nat)
  | nils
  | es
  | sl (k o len cap : Nat)
  | nilm
  | map (k : Nat)
  | nilf
  | fn (f : Nat) (first cap : List V)
  | yld (k : Nat)
  | agg (cs : List V)
  | tup (vs : List V)
  deriving Inhabited

inductive X where
  | t (n : Nat)
  | c (v : V)

/-- What '==' compares. -/
inductive EK where
  | bool | ptr | sl | fn
  | agg (ks : List Bool)
  deriving DecidableEq

/-- Keys of maps: whole numbers; pairs of such. -/
inductive KK where
  | int | pair
  deriving DecidableEq

inductive I where
  | mv (x : X)
  | pick (c a b : X)
  | alloc (zs : List V)
  | box (n : Nat) (x : X)
  | build (zs : List V) (ps : List (Nat × Nat × X))
  | bslice (len size : Nat) (zs : List V) (ps : List (Nat × X))
  | load (n : Nat) (agg : Bool) (x : X)
  | store (n : Nat) (x v : X)
  | nilc (x : X)
  | bin (op : BinOp) (x y : X)
  | eq (ne : Bool) (e : EK) (x y : X)
  | neg (x : X)
  | not (x : X)
  | conv (k : IntKind) (x : X)
  | mkfn (f : Nat) (first cap : List X)
  | mkslice (size bytes : Nat) (zs : List V) (l : X)
  | slc (size : Nat) (x : X) (lo hi : Option X)
  | fadr (off : Nat) (x : X)
  | fld (off n : Nat) (agg : Bool) (x : X)
  | iadr (size : Nat) (x i : X)
  | idx (len size : Nat) (agg : Bool) (x i : X)
  | ext (x : X) (j : Nat)
  | call (f : X) (args : List X)
  | len (x : X)
  | mlen (x : X)
  | append (size bytes : Nat) (x y : X)
  | copy (size : Nat) (x y : X)
  | mn (x y : X)
  | mx (x y : X)
  | clear (size : Nat) (zs : List V) (x : X)
  | mkmap
  | lookup (kk : KK) (zero : V) (ok : Bool) (m k : X)
  | mapupd (kk : KK) (m k v : X)
  | mapent (kk : KK) (zero : V) (m k : X)
  | entst (m s v : X)
  | bad

structure Ins where
  dst : Option Nat
  i : I
  g : Option (Nat × Bool)

/-- How an operation is made within a region that draws its order. -/
inductive DM where
  | plain
  | hole (j : Nat)
  | pcall (hide : List Nat)

inductive Chk where
  | ne (x y : X)
  | nh (x : X) (j : Nat)
  | lt (x : X)

inductive MC where
  | skip
  | reg (ops : List Ins)
  | dreg (nh : Nat) (ops : List (DM × Ins)) (chk : List Chk)
  | seq (a b : MC)
  | cond (c : X) (a b : MC)
  | block (id : Nat) (a : MC)
  | loop (a : MC)
  | exit (id : Nat)
  | ret
  | rangef (f : X) (ps : List Nat) (asg body : MC)

inductive Ex where
  | normal
  | exit (id : Nat)
  | ret
  deriving DecidableEq

/-- ro, rg: not to be written (rg: made by append); ex: of just these cells; gr: made by append, elements of so many cells. -/
inductive Mode where
  | ro
  | rg (es : Nat)
  | ex
  | gr (es : Nat)
  deriving DecidableEq
def Mode.wr : Mode → Bool
  | .ex | .gr _ => true
  | _ => false

inductive LS where
  | ready
  | busy
  | done (e : Ex)

inductive Blk where
  | dead
  | cells (cs : List V) (m : Mode)
  | mp (es : List (V × V))
  | lp (τ : Nat → V) (ps : List Nat) (asg body : MC) (st : LS)

instance : Inhabited Blk := ⟨.dead⟩

abbrev Heap := List Blk
structure St where
  τ : Nat → V
  H : Heap

inductive Tgt where
  | f (n : Nat)
  | y (k : Nat)

abbrev CallF := Tgt → List V → Heap → Option (V × Heap)

def upd (τ : Nat → V) (d : Nat) (v : V) : Nat → V := fun t => cond (t == d) v (τ t)
def put (τ : Nat → V) (d : Option Nat) (v : V) : Nat → V := match d with | none => τ | some d => upd τ d v
def ev (τ : Nat → V) : X → V
  | .t n => τ n
  | .c v => v

/-- A value that one cell holds. -/
def V.scalar : V → Bool
  | .undef | .agg _ | .tup _ => false
  | _ => true
/-- The cells of a value. -/
def V.cells : V → Option (List V)
  | .undef | .tup _ => none
  | .agg cs => some cs
  | v => some [v]

def rd (H : Heap) (k o : Nat) : Option V := match H[k]? with | some (.cells cs _) => cs[o]? | _ => none
def rdn (H : Heap) (k o n : Nat) : Option (List V) :=
  match H[k]? with
  | some (.cells cs _) => if o + n ≤ cs.length then some ((cs.drop o).take n) else none
  | _ => none
def wrc {α : Type} : List α → Nat → List α → List α
  | cs, _, [] => cs
  | cs, o, v :: vs => wrc (cs.set o v) (o + 1) vs
def wr (H : Heap) (k o : Nat) (vs : List V) : Option Heap :=
  match H[k]? with
  | some (.cells cs m) => if m.wr = false then none else if o + vs.length ≤ cs.length then (if vs.all V.scalar then some (H.set k (.cells (wrc cs o vs) m)) else none) else none
  | _ => none

def fillc : List V → List (Nat × Nat × V) → Option (List V)
  | cs, [] => some cs
  | cs, (off, n, v) :: ps => match v.cells with
    | some vs => if vs.length = n then (if off + n ≤ cs.length then fillc (wrc cs off vs) ps else none) else none
    | none => none

def binop (op : BinOp) (x y : V) : Option V :=
  match x, y with
  | .int k a, .int k' b =>
    match op with
    | .shl => if 0 ≤ b then some (.int k (k.wrap (a * 2 ^ (min b.toNat k.bits)))) else none
    | .shr => if 0 ≤ b then some (.int k (a.fdiv (2 ^ (min b.toNat k.bits)))) else none
    | .add => if k = k' then some (.int k (k.wrap (a + b))) else none
    | .sub => if k = k' then some (.int k (k.wrap (a - b))) else none
    | .mul => if k = k' then some (.int k (k.wrap (a * b))) else none
    | .quo => if k = k' then (if b = 0 then none else some (.int k (k.wrap (a.tdiv b)))) else none
    | .rem => if k = k' then (if b = 0 then none else some (.int k (a.tmod b))) else none
    | .and => if k = k' then some (.int k (k.wrap ((BitVec.ofInt k.bits a &&& BitVec.ofInt k.bits b).toNat))) else none
    | .eql => if k = k' then some (.bool (a == b)) else none
    | .neq => if k = k' then some (.bool (a != b)) else none
    | .lss => if k = k' then some (.bool (decide (a < b))) else none
    | .leq => if k = k' then some (.bool (decide (a ≤ b))) else none
    | .gtr => if k = k' then some (.bool (decide (a > b))) else none
    | .geq => if k = k' then some (.bool (decide (a ≥ b))) else none
    | _ => none
  | _, _ => none

/-- Are two rows of whole numbers (where ks says so) and bools the same? -/
def eqAll : List Bool → List V → List V → Option Bool
  | [], [], [] => some true
  | true :: ks, .int k a :: xs, .int k' b :: ys => if k = k' then (if a == b then eqAll ks xs ys else some false) else none
  | false :: ks, .bool a :: xs, .bool b :: ys => if a == b then eqAll ks xs ys else some false
  | _, _, _ => none

def eqv (e : EK) (x y : V) : Option Bool :=
  match e, x, y with
  | .bool, .bool a, .bool b => some (a == b)
  | .ptr, .nilp, .nilp => some true
  | .ptr, .nilp, .ptr _ _ | .ptr, .ptr _ _, .nilp => some false
  | .sl, .nils, .nils => some true
  | .sl, .nils, .sl _ _ _ _ | .sl, .sl _ _ _ _, .nils => some false
  | .fn, .nilf, .nilf => some true
  | .fn, .nilf, .fn _ _ _ | .fn, .fn _ _ _, .nilf => some false
  | .agg ks, .agg xs, .agg ys => eqAll ks xs ys
  | _, _, _ => none

def keyWf : KK → V → Bool
  | .int, .int _ _ => true
  | .pair, .agg [.int _ _, .int _ _] => true
  | _, _ => false
def keyEq : V → V → Option Bool
  | .int k a, .int k' b => if k = k' then some (a == b) else none
  | .agg [.int k a, .int k' b], .agg [.int l c, .int l' d] => if k = l ∧ k' = l' then some (a == c && b == d) else none
  | _, _ => none
/-- Where a key stands. -/
def findk (x : V) : List (V × V) → Nat → Option (Option (Nat × V))
  | [], _ => some none
  | e :: es, i => match keyEq x e.1 with
    | some true => some (some (i, e.2))
    | some false => findk x es (i + 1)
    | none => none

def mpAt (H : Heap) (k : Nat) : Option (List (V × V)) := match H[k]? with | some (.mp es) => some es | _ => none

def mapOf (H : Heap) : V → Option (List (V × V))
  | .nilm => some []
  | .map k => mpAt H k
  | _ => none
def keyf (kk : KK) (x : V) (es : List (V × V)) : Option (Option (Nat × V)) := if keyWf kk x then findk x es 0 else none

def lim : Nat := 2 ^ 24

/-- A slice's cells, as many elements of so many cells as there are. -/
def cellsOf (H : Heap) (size : Nat) : V → Option (List V)
  | .nils | .es => some []
  | .sl k o len _ => rdn H k o (len * size)
  | _ => none
def lenOf : V → Option Nat
  | .nils | .es => some 0
  | .sl _ _ len _ => some len
  | _ => none

/-- append: behind an exact block a new one; behind one that append made the elder one is not to be touched any more. -/
def appendv (H : Heap) (size bytes : Nat) (x y : V) : Option (V × Heap) :=
  match lenOf y, cellsOf H size y with
  | some m, some ys =>
    if ys.all V.scalar = false then none else
    match x with
    | .nils => if m = 0 then some (.nils, H) else if m * bytes ≤ 2 ^ 40 ∧ m ≤ lim then some (.sl H.length 0 m m, H ++ [.cells ys (.gr size)]) else none
    | .sl k o len cap =>
      match H[k]? with
      | some (.cells cs md) =>
        if o + len * size ≤ cs.length then
          if len + m ≤ cap then
            match wr H k (o + len * size) ys with
            | some H' => some (.sl k o (len + m) cap, H')
            | none => none
          else if (len + m) * bytes ≤ 2 ^ 40 ∧ len + m ≤ lim then
            match md with
            | .ex => some (.sl H.length 0 (len + m) (len + m), H ++ [.cells ((cs.drop o).take (len * size) ++ ys) (.gr size)])
            | .gr es => if es = size ∧ o = 0 then some (.sl H.length 0 (len + m) (len + m), H.set k .dead ++ [.cells (cs.take (len * size) ++ ys) (.gr size)]) else none
            | _ => none
          else none
        else none
      | _ => none
    | _ => none
  | _, _ => none

def hiOf (len : Nat) : Option V → Option Int
  | none => some len
  | some (.int _ n) => some n
  | _ => none
def loOf : Option V → Option Int
  | none => some 0
  | some (.int _ n) => some n
  | _ => none
/-- The slice from l on, of capacity cap; moved is right where there is room behind. -/
def moved (k o size len cap l h : Nat) : V := if l = 0 then .sl k o h cap else if l < cap then .sl k (o + l * size) (h - l) (cap - l) else .es
def slcv (H : Heap) (size : Nat) (x : V) (lo hi : Option V) : Option V :=
  match x with
  | .sl k o len cap =>
    match hiOf len hi, loOf lo with
    | some h, some l =>
      if 0 ≤ l ∧ l ≤ h ∧ h ≤ cap then
        match H[k]? with
        | some (.cells _ (.gr es)) => if es = size then some (moved k o size len cap l.toNat h.toNat) else none
        | some (.cells _ (.rg es)) => if es = size then some (moved k o size len cap l.toNat h.toNat) else none
        | some (.cells _ .ex) => if l = cap then some (.sl k o 0 0) else some (.sl k (o + l.toNat * size) (h.toNat - l.toNat) (cap - l.toNat))
        | some (.cells _ .ro) => some (moved k o size len cap l.toNat h.toNat)
        | _ => none
      else none
    | _, _ => none
  | .nils =>
    match hiOf 0 hi, loOf lo with
    | some h, some l => if l = 0 ∧ h = 0 then some .nils else none
    | _, _ => none
  | .es =>
    match hiOf 0 hi, loOf lo with
    | some h, some l => if l = 0 ∧ h = 0 then some .es else none
    | _, _ => none
  | _ => none

def aop (call : CallF) (τ : Nat → V) (H : Heap) : I → Option (V × Heap)
  | .mv x => some (ev τ x, H)
  | .pick c a b => match ev τ c with | .bool t => some (cond t (ev τ a) (ev τ b), H) | _ => none
  | .alloc zs => some (.ptr H.length 0, H ++ [.cells zs .ex])
  | .box n x => match (ev τ x).cells with | some cs => if cs.length = n then some (.ptr H.length 0, H ++ [.cells cs .ex]) else none | none => none
  | .build zs ps => (fillc zs (ps.map fun p => (p.1, p.2.1, ev τ p.2.2))).map fun cs => (.agg cs, H)
  | .bslice len size zs ps => (fillc zs (ps.map fun p => (p.1, size, ev τ p.2))).map fun cs => (.sl H.length 0 len len, H ++ [.cells cs .ex])
  | .load n agg x => match ev τ x with
    | .ptr k o => if agg then (rdn H k o n).map fun cs => (.agg cs, H) else (rd H k o).map fun v => (v, H)
    | _ => none
  | .store n x v => match ev τ x, (ev τ v).cells with
    | .ptr k o, some cs => if cs.length = n then (wr H k o cs).map fun H' => (.undef, H') else none
    | _, _ => none
  | .nilc x => match ev τ x with | .ptr k o => some (.ptr k o, H) | .fn f a b => some (.fn f a b, H) | .yld k => some (.yld k, H) | _ => none
  | .bin op x y => (binop op (ev τ x) (ev τ y)).map fun v => (v, H)
  | .eq ne e x y => (eqv e (ev τ x) (ev τ y)).map fun b => (.bool (cond ne (!b) b), H)
  | .neg x => match ev τ x with | .int k n => some (.int k (k.wrap (0 - n)), H) | _ => none
  | .not x => match ev τ x with | .bool b => some (.bool (!b), H) | _ => none
  | .conv k x => match ev τ x with | .int _ n => some (.int k (k.wrap n), H) | _ => none
  | .mkfn f a b => some (.fn f (a.map (ev τ)) (b.map (ev τ)), H)
  | .mkslice _ bytes zs l => match ev τ l with
    | .int _ n => if 0 ≤ n ∧ n ≤ lim ∧ n * bytes ≤ 2 ^ 40 then some (.sl H.length 0 n.toNat n.toNat, H ++ [.cells ((List.replicate n.toNat zs).flatten) .ex]) else none
    | _ => none
  | .slc size x lo hi => (slcv H size (ev τ x) (lo.map (ev τ)) (hi.map (ev τ))).map fun v => (v, H)
  | .fadr off x => match ev τ x with | .ptr k o => some (.ptr k (o + off), H) | _ => none
  | .fld off n agg x => match ev τ x with
    | .agg cs => if agg then some (.agg ((cs.drop off).take n), H) else (cs[off]?).map fun v => (v, H)
    | _ => none
  | .iadr size x i => match ev τ x, ev τ i with
    | .sl k o len _, .int _ n => if 0 ≤ n ∧ n < len then some (.ptr k (o + n.toNat * size), H) else none
    | _, _ => none
  | .idx len size agg x i => match ev τ x, ev τ i with
    | .agg cs, .int _ n => if 0 ≤ n ∧ n < len then (if agg then some (.agg ((cs.drop (n.toNat * size)).take size), H) else (cs[n.toNat * size]?).map fun v => (v, H)) else none
    | _, _ => none
  | .ext x j => match ev τ x with | .tup vs => (vs[j]?).map fun v => (v, H) | _ => none
  | .call f args => match ev τ f with
    | .fn g a b => call (.f g) (a ++ args.map (ev τ) ++ b) H
    | .yld k => call (.y k) (args.map (ev τ)) H
    | _ => none
  | .len x => match ev τ x with
    | .nils | .es => some (.int .i64 0, H)
    | .sl _ _ n _ => some (.int .i64 n, H)
    | _ => none
  | .mlen x => (mapOf H (ev τ x)).map fun es => (.int .i64 es.length, H)
  | .append size bytes x y => appendv H size bytes (ev τ x) (ev τ y)
  | .copy size x y =>
    match lenOf (ev τ x), lenOf (ev τ y) with
    | some n, some m => match cellsOf H size (ev τ y) with
      | some ys => match ev τ x with
        | .sl k o _ _ => (wr H k o (ys.take (min m n * size))).map fun H' => (.int .i64 (min m n), H')
        | .nils => some (.int .i64 0, H)
        | _ => none
      | none => none
    | _, _ => none
  | .mn x y => match ev τ x, ev τ y with | .int k a, .int k' b => if k = k' then some (.int k (if b < a then b else a), H) else none | _, _ => none
  | .mx x y => match ev τ x, ev τ y with | .int k a, .int k' b => if k = k' then some (.int k (if b > a then b else a), H) else none | _, _ => none
  | .clear _ zs x => match ev τ x with
    | .nils => some (.tup [], H)
    | .sl k o n _ => if n = 0 then some (.tup [], H) else (wr H k o ((List.replicate n zs).flatten)).map fun H' => (.tup [], H')
    | _ => none
  | .mkmap => some (.map H.length, H ++ [.mp []])
  | .lookup kk zero ok m x => match mapOf H (ev τ m) with
    | some es => match keyf kk (ev τ x) es with
      | some (some (_, v)) => some (cond ok (.tup [v, .bool true]) v, H)
      | some none => some (cond ok (.tup [zero, .bool false]) zero, H)
      | none => none
    | none => none
  | .mapupd kk m x v => match ev τ m with
    | .map k => match mpAt H k with
      | some es => match keyf kk (ev τ x) es with
        | some (some (i, _)) => some (.undef, H.set k (.mp (es.set i (ev τ x, ev τ v))))
        | some none => some (.undef, H.set k (.mp (es ++ [(ev τ x, ev τ v)])))
        | none => none
      | none => none
    | _ => none
  | .mapent kk zero m x => match ev τ m with
    | .map k => match mpAt H k with
      | some es => match keyf kk (ev τ x) es with
        | some (some (i, v)) => some (.tup [v, .int .i64 i], H.set k (.mp (es.set i (ev τ x, v))))
        | some none => some (.tup [zero, .int .i64 es.length], H.set k (.mp (es ++ [(ev τ x, zero)])))
        | none => none
      | none => none
    | _ => none
  | .entst m s v => match ev τ m, ev τ s with
    | .map k, .int _ n => match mpAt H k with
      | some es => match es[n.toNat]? with
        | some e => if 0 ≤ n then some (.undef, H.set k (.mp (es.set n.toNat (e.1, ev τ v)))) else none
        | none => none
      | none => none
    | _, _ => none
  | .bad => none

def wanted (τ : Nat → V) : Option (Nat × Bool) → Option Bool
  | none => some true
  | some (t, b) => match τ t with | .bool c => some (c == b) | .undef => some false | _ => none

def ins (call : CallF) (x : Ins) (s : St) : Option St :=
  match wanted s.τ x.g with
  | some true => (aop call s.τ s.H x.i).map fun p => ⟨put s.τ x.dst p.1, p.2⟩
  | some false => some ⟨put s.τ x.dst .undef, s.H⟩
  | none => none

def insL (call : CallF) : List Ins → St → Option St
  | [], s => some s
  | x :: xs, s => (ins call x s).bind (insL call xs)

/-- The same, with nothing of it to be written, and some blocks hidden. -/
def ro1 : Blk → Blk
  | .cells cs .ro => .cells cs .ro
  | .cells cs .ex => .cells cs .ro
  | .cells cs (.gr es) => .cells cs (.rg es)
  | .cells cs (.rg es) => .cells cs (.rg es)
  | _ => .dead
def prot (hide : List Nat) (H : Heap) : Heap := H.mapIdx fun k b => if k ∈ hide then .dead else ro1 b
def pcall (call : CallF) (hide : List Nat) : CallF := fun t args H =>
  (call t args (prot hide H)).map fun p => (p.1, H ++ p.2.drop H.length)

/-- What an operation lays that makes one block: the block, and its value at that block's number. -/
def newOf (τ : Nat → V) : I → Option (Blk × (Nat → V))
  | .alloc zs => some (.cells zs .ex, fun k => .ptr k 0)
  | .box n x => match (ev τ x).cells with | some cs => if cs.length = n then some (.cells cs .ex, fun k => .ptr k 0) else none | none => none
  | .bslice len size zs ps => (fillc zs (ps.map fun p => (p.1, size, ev τ p.2))).map fun cs => (.cells cs .ex, fun k => .sl k 0 len len)
  | .mkslice _ bytes zs l => match ev τ l with
    | .int _ n => if 0 ≤ n ∧ n ≤ lim ∧ n * bytes ≤ 2 ^ 40 then some (.cells ((List.replicate n.toNat zs).flatten) .ex, fun k => .sl k 0 n.toNat n.toNat) else none
    | _ => none
  | _ => none

def dins (call : CallF) (N : Nat) (d : DM × Ins) (s : St) : Option St :=
  match d.1 with
  | .plain => ins call d.2 s
  | .pcall hide => ins (pcall call (hide.map (N + ·))) d.2 s
  | .hole j => match wanted s.τ d.2.g with
    | some true => match newOf s.τ d.2.i with
      | some (b, mk) => match s.H[N + j]? with
        | some .dead => some ⟨put s.τ d.2.dst (mk (N + j)), s.H.set (N + j) b⟩
        | _ => none
      | none => none
    | some false => some ⟨put s.τ d.2.dst .undef, s.H⟩
    | none => none

def dinsL (call : CallF) (N : Nat) : List (DM × Ins) → St → Option St
  | [], s => some s
  | x :: xs, s => (dins call N x s).bind (dinsL call N xs)

def V.blk? : V → Option Nat
  | .ptr k _ | .sl k _ _ _ | .map k => some k
  | _ => none
def Chk.ok (N nh : Nat) (τ : Nat → V) : Chk → Bool
  | .ne x y => match (ev τ x).blk?, (ev τ y).blk? with | some a, some b => a != b | _, _ => true
  | .nh x j => match (ev τ x).blk? with | some a => a != N + j | none => true
  | .lt x => match (ev τ x).blk? with | some a => decide (a < N + nh) | none => true

def setps (τ : Nat → V) : List Nat → List V → (Nat → V)
  | p :: ps, v :: vs => setps (upd τ p v) ps vs
  | _, _ => τ

abbrev Out := Option (Ex × St)
def andThen (r : Out) (f : St → Out) : Out :=
  match r with
  | some (.normal, s) => f s
  | some (.exit i, s) => some (.exit i, s)
  | some (.ret, s) => some (.ret, s)
  | none => none
def unblk (id : Nat) (r : Out) : Out :=
  match r with
  | some (.exit i, s) => if i = id then some (.normal, s) else some (.exit i, s)
  | some (.normal, s) => some (.normal, s)
  | some (.ret, s) => some (.ret, s)
  | none => none

def iter : Nat → (St → Out) → St → Out
  | 0, _, _ => none
  | n + 1, f, s => andThen (f s) (iter n f)

def tgt : V → Option (Tgt × List V × List V)
  | .fn g a b => some (.f g, a, b)
  | _ => none

def afterRange (s : St) : Option (V × Heap) → Out
  | some (_, H') => match H'[s.H.length]? with
    | some (.lp _ _ _ _ .ready) => some (.normal, ⟨s.τ, H'.set s.H.length .dead⟩)
    | some (.lp _ _ _ _ (.done e)) => some (e, ⟨s.τ, H'.set s.H.length .dead⟩)
    | _ => none
  | none => none
def afterDraw (N nh : Nat) (chk : List Chk) : Option St → Out
  | some s' => if chk.all (Chk.ok N nh s'.τ) then some (.normal, s') else none
  | none => none

def exec (call : CallF) (n : Nat) : MC → St → Out
  | .skip, s => some (.normal, s)
  | .reg ops, s => (insL call ops s).map fun s' => (.normal, s')
  | .dreg nh ops chk, s =>
    afterDraw s.H.length nh chk (dinsL call s.H.length ops ⟨s.τ, s.H ++ List.replicate nh .dead⟩)
  | .seq a b, s => andThen (exec call n a s) (exec call n b)
  | .cond c a b, s => match ev s.τ c with
    | .bool t => cond t (exec call n a s) (exec call n b s)
    | _ => none
  | .block id a, s => unblk id (exec call n a s)
  | .loop a, s => iter n (exec call n a) s
  | .exit id, s => some (.exit id, s)
  | .ret, s => some (.ret, s)
  | .rangef f ps asg body, s =>
    match tgt (ev s.τ f) with
    | some (t, a, b) => afterRange s (call t (a ++ [.yld s.H.length] ++ b) (s.H ++ [.lp s.τ ps asg body .ready]))
    | none => none

inductive RV where
  | t (n : Nat)
  | c (n : Nat) (size : Nat) (agg : Bool)

structure FC where
  nargs : Nat
  res : List RV
  body : MC

def res1 (τ : Nat → V) (H : Heap) : RV → Option V
  | .t n => some (τ n)
  | .c n size agg => match τ n with
    | .ptr k o => if agg then (rdn H k o size).map .agg else rd H k o
    | _ => none
def resL (τ : Nat → V) (H : Heap) : List RV → Option (List V)
  | [] => some []
  | r :: rs => match res1 τ H r, resL τ H rs with | some v, some vs => some (v :: vs) | _, _ => none
def pack : List V → V
  | [v] => v
  | vs => .tup vs

def args0 (args : List V) : Nat → V := fun t => (args[t]?).getD .undef

/-- What the functions are: their code; or, of some, what they answer. -/
structure Env where
  C : Nat → Option FC
  S : Nat → Option (List V → Heap → Option (V × Heap))

def finish (fc : FC) : Out → Option (V × Heap)
  | some (.exit _, _) => none
  | some (_, s) => (resL s.τ s.H fc.res).map fun vs => (pack vs, s.H)
  | none => none

def endRound (k : Nat) : Out → Option (V × Heap)
  | some (e, s) => match s.H[k]? with
    | some (.lp τ ps asg body .busy) => some (.bool (decide (e = .normal)), s.H.set k (.lp τ ps asg body (if e = .normal then .ready else .done e)))
    | _ => none
  | none => none

def beginRound (k : Nat) (s : St) : Option St :=
  match s.H[k]? with
  | some (.lp τ ps asg body .ready) => some ⟨s.τ, s.H.set k (.lp τ ps asg body .busy)⟩
  | _ => none

/-- Behind the assignments to the loop's variables: the round begins. -/
def aBegin (k : Nat) (r : Out) (f : St → Out) : Out :=
  match r with
  | some (.normal, s) => match beginRound k s with
    | some s1 => f s1
    | none => none
  | _ => none

def callN (E : Env) : Nat → CallF
  | 0, _, _, _ => none
  | n + 1, .f g, args, H => match E.S g with
    | some h => h args H
    | none => match E.C g with
      | some fc => if args.length = fc.nargs then finish fc (exec (callN E n) n fc.body ⟨args0 args, H⟩) else none
      | none => none
  | n + 1, .y k, args, H => match H[k]? with
    | some (.lp τ ps asg body .ready) => if args.length = ps.length then
        endRound k (aBegin k (exec (callN E n) n asg ⟨setps τ ps args, H⟩) (exec (callN E n) n body))
        else none
    | _ => none

end Go.Ar
