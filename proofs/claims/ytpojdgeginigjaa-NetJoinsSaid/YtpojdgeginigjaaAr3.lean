/- From the loaded code to the abstract one: the compiler (a plain function, run by the kernel), with the look at regions that draw their order. -/
import Derived.Test.YtpojdgeginigjaaAr1
import Derived.Orders
set_option linter.unusedSimpArgs false
set_option linter.unusedVariables false
namespace Go.Ar

/-- A value that one cell holds, as the abstract run has it. -/
def absS : Value → V
  | .bool b => .bool b
  | .int k n => .int k n
  | .pointer none => .nilp
  | .slice none 0 0 => .nils
  | .map none => .nilm
  | .nilFunc => .nilf
  | _ => .undef
def absV : Value → V
  | .agg cs => .agg (cs.toList.map absS)
  | v => absS v
def cX : Operand → X
  | .tmp t => .t t
  | .const v => .c (absV v)
  | .global _ => .c .undef
  | .func f => .c (.fn f [] [])

variable (P : Program)
def tsize (t : TypeId) : Option Nat := (P.info? t).map (·.size)
def tzero (t : TypeId) : Option (List V) :=
  match P.info? t with
  | some i => match i.zero with
    | some z => if z.cells.size = i.size ∧ (z.cells.toList.map absS).all V.scalar then some (z.cells.toList.map absS) else none
    | none => none
  | none => none
def tagg (t : TypeId) : Option Bool :=
  match P.underlying t with
  | some (.struct _) | some (.array _ _) => some true
  | some _ => some false
  | none => none
def telem (t : TypeId) : Option TypeId := match P.underlying t with | some (.slice e) => some e | _ => none

/-- A struct's fields, each a whole number or a bool of one cell. -/
def flat1 (f : Field × Nat) : Option Bool :=
  if f.1.offset = f.2 ∧ f.1.name ≠ "_" then
    match P.underlying f.1.type with
    | some (.int _) => some true
    | some .bool => some false
    | _ => none
  else none
def flat (t : TypeId) : Option (List Bool) :=
  match P.underlying t with
  | some (.struct fs) => if P.stoodInHeld t = false ∧ P.eqGuardType P.depth t = false then fs.toList.zipIdx.mapM (flat1 P) else none
  | _ => none
/-- A key: a whole number; or a pair of such. -/
def keyOk (t : TypeId) : Option KK :=
  match P.underlying t with
  | some (.int _) => some .int
  | some (.array 2 e) => if tsize P e = some 1 then (match P.underlying e with | some (.int _) => some .pair | _ => none) else none
  | _ => none

def optB {α : Type} (o : Option α) (f : α → I) : I := match o with | some a => f a | none => .bad

def eqOp (t : TypeId) (ne : Bool) (x y : X) : I :=
  match P.underlying t with
  | some .bool => .eq ne .bool x y
  | some (.pointer _) => .eq ne .ptr x y
  | some (.slice _) => .eq ne .sl x y
  | some (.func _ _ _) => .eq ne .fn x y
  | some (.struct _) => optB (flat P t) fun ks => .eq ne (.agg ks) x y
  | _ => .bad

def lk (t : TypeId) : Option V :=
  match P.info? t with
  | some i => match i.zero with
    | some v => if (absS v).scalar then some (absS v) else none
    | none => none
  | none => none

def compOp (o : Oper) : I :=
  match o.op with
  | .move x | .assign x => .mv (cX x)
  | .pick c a b => .pick (cX c) (cX a) (cX b)
  | .alloc t => optB (tzero P t) .alloc
  | .box t x => optB (tsize P t) fun n => .box n (cX x)
  | .build t parts => optB (tzero P t) fun zs =>
    match P.underlying t with
    | some (.struct fields) => if fields.toList.all fun f => (tsize P f.type).isSome then optB (parts.toList.mapM fun p => match fields[p.1]? with | some f => (tsize P f.type).map fun n => (f.offset, n, cX p.2) | none => none) (fun ps => .build zs ps) else .bad
    | some (.array _ e) => optB (tsize P e) fun n => .build zs (parts.toList.map fun p => (p.1 * n, n, cX p.2))
    | _ => .bad
  | .buildSlice t len parts => optB (telem P t) fun e => optB (tsize P e) fun n => optB (tzero P e) fun zs =>
      if len * n ≤ 2 ^ 24 ∧ 0 < n then .bslice len n ((List.replicate len zs).flatten) (parts.toList.map fun p => (p.1 * n, cX p.2)) else .bad
  | .load t x => optB (tsize P t) fun n => optB (tagg P t) fun g => .load n g (cX x)
  | .store t x v => optB (tsize P t) fun n => .store n (cX x) (cX v)
  | .nilCheck x => .nilc (cX x)
  | .binOp op t x y _ =>
    match P.underlying t with
    | some (.int _) => .bin op (cX x) (cX y)
    | _ => match op with
      | .eql => eqOp P t false (cX x) (cX y)
      | .neq => eqOp P t true (cX x) (cX y)
      | _ => .bad
  | .unOp .neg _ x => .neg (cX x)
  | .unOp .not _ x => .not (cX x)
  | .convert src dst x => match P.underlying src, P.underlying dst with
    | some (.int _), some (.int k) => .conv k (cX x)
    | _, _ => .bad
  | .makeFunc (.func f) a b => .mkfn f (a.toList.map cX) (b.toList.map cX)
  | .makeMap _ none => .mkmap
  | .makeSlice t (.tmp l) (.tmp c) => if l = c then optB (telem P t) fun e => match P.info? e with
      | some i => if 0 < i.size then optB (tzero P e) fun zs => .mkslice i.size i.bytes zs (.t l) else .bad
      | none => .bad
    else .bad
  | .slice t x lo hi none => optB (telem P t) fun e => optB (tsize P e) fun n => .slc n (cX x) (lo.map cX) (hi.map cX)
  | .fieldAddr t x f => match P.underlying t with
    | some (.struct fs) => match fs[f]? with
      | some fd => match tsize P fd.type with
        | some n => if n = 0 then .bad else .fadr fd.offset (cX x)
        | none => .bad
      | none => .bad
    | _ => .bad
  | .field t x f => match P.underlying t with
    | some (.struct fs) => match fs[f]? with
      | some fd => optB (tsize P fd.type) fun n => optB (tagg P fd.type) fun g => .fld fd.offset n g (cX x)
      | none => .bad
    | _ => .bad
  | .indexAddr t x i => optB (telem P t) fun e => optB (tsize P e) fun n => .iadr n (cX x) (cX i)
  | .index t x i => match P.underlying t with
    | some (.array len e) => optB (tsize P e) fun n => optB (tagg P e) fun g => .idx len n g (cX x) (cX i)
    | _ => .bad
  | .lookup t m k ok => match P.underlying t with
    | some (.map kt et) => optB (keyOk P kt) fun kk => optB (lk P et) fun z => .lookup kk z ok (cX m) (cX k)
    | _ => .bad
  | .mapUpdate t m k v => match P.underlying t with
    | some (.map kt _) => optB (keyOk P kt) fun kk => .mapupd kk (cX m) (cX k) (cX v)
    | _ => .bad
  | .mapEntry t m k => match P.underlying t with
    | some (.map kt et) => optB (keyOk P kt) fun kk => optB (lk P et) fun z => .mapent kk z (cX m) (cX k)
    | _ => .bad
  | .entryStore _ m s v => .entst (cX m) (cX s) (cX v)
  | .extract x j => .ext (cX x) j
  | .call { callee := .value f, args, .. } => .call (cX f) (args.toList.map cX)
  | .call { callee := .builtin b, args, argTypes } =>
    match b, args.toList, argTypes.toList with
    | .len, [x], [t] => match P.underlying t with | some (.slice _) => .len (cX x) | some (.map _ _) => .mlen (cX x) | _ => .bad
    | .append, [x, y], [t, u] => optB (telem P t) fun e => match P.info? e, tzero P e with
      | some i, some _ => if 0 < i.size ∧ 0 < i.bytes ∧ u = t then .append i.size i.bytes (cX x) (cX y) else .bad
      | _, _ => .bad
    | .copy, [x, y], [t, _] => optB (telem P t) fun e => optB (tsize P e) fun n => .copy n (cX x) (cX y)
    | .min, [x, y], _ => .mn (cX x) (cX y)
    | .max, [x, y], _ => .mx (cX x) (cX y)
    | .clear, [x], [t] => optB (telem P t) fun e => optB (tsize P e) fun n => optB (tzero P e) fun zs => if 0 < n then .clear n zs (cX x) else .bad
    | _, _, _ => .bad
  | _ => .bad

def noCall : I → I
  | .call _ _ => .bad
  | i => i
def noNew : I → I
  | .alloc _ | .box _ _ | .bslice _ _ _ _ | .mkslice _ _ _ _ => .bad
  | i => i
def newOp (o : Oper) : Bool :=
  match o.op with
  | .alloc _ | .box _ _ | .buildSlice _ _ _ | .makeSlice _ _ _ => true
  | _ => false
def compOpC (o : Oper) : I :=
  match o.op with
  | .call c => match c.callee with
    | .value f => .call (cX f) (c.args.toList.map cX)
    | _ => noNew (noCall (compOp P o))
  | _ => if newOp o then noCall (compOp P o) else noNew (noCall (compOp P o))

/-- The guard, by the slot of the operation that it asks. -/
def compG (ops : List Oper) (o : Oper) : Option (Option (Nat × Bool)) :=
  match o.guard with
  | none => some none
  | some (j, b) => match ops[j]? with
    | some q => q.dst.map fun d => some (d, b)
    | none => none
/-- (Every slot that is written lies among the first nt.) -/
def compIns (nt : Nat) (ops : List Oper) (o : Oper) : Option Ins :=
  if (match o.dst with | some d => decide (d < nt) | none => true) then (compG ops o).map fun g => ⟨o.dst, compOpC P o, g⟩ else none

/-! ### The slots that an operation looks at -/
def X.tmps : X → List Nat
  | .t n => [n]
  | .c _ => []
def oX : Option X → List Nat
  | some x => x.tmps
  | none => []
def I.tmps : I → List Nat
  | .mv x | .box _ x | .load _ _ x | .nilc x | .neg x | .not x | .conv _ x | .mkslice _ _ _ x | .fadr _ x | .fld _ _ _ x | .ext x _ | .len x | .mlen x | .clear _ _ x => x.tmps
  | .pick a b c | .mapupd _ a b c | .entst a b c => a.tmps ++ b.tmps ++ c.tmps
  | .alloc _ | .mkmap | .bad => []
  | .build _ ps => ps.flatMap fun p => p.2.2.tmps
  | .bslice _ _ _ ps => ps.flatMap fun p => p.2.tmps
  | .store _ x v | .bin _ x v | .eq _ _ x v | .iadr _ x v | .idx _ _ _ x v | .append _ _ x v | .copy _ x v | .mn x v | .mx x v | .lookup _ _ _ x v | .mapent _ _ x v => x.tmps ++ v.tmps
  | .mkfn _ a b => (a ++ b).flatMap X.tmps
  | .slc _ x lo hi => x.tmps ++ oX lo ++ oX hi
  | .call f args => f.tmps ++ args.flatMap X.tmps
def Ins.reads (x : Ins) : List Nat := (match x.g with | some (t, _) => [t] | none => []) ++ x.i.tmps
def Ins.apart (x y : Ins) : Bool :=
  (match x.dst with | some d => !(y.reads.contains d) && !(y.dst == some d) | none => true) && (match y.dst with | some d => !(x.reads.contains d) | none => true)

/-- What an operation does to memory. -/
inductive Cl where
  | pure
  | load (x : X)
  | new
  | store (x : X)
  | app (x y : X)
  | call
  | ment (m : X)
  | other
def I.cl : I → Cl
  | .mv _ | .pick _ _ _ | .build _ _ | .nilc _ | .bin _ _ _ | .eq _ _ _ _ | .neg _ | .not _ | .conv _ _ | .mkfn _ _ _ | .fadr _ _ | .fld _ _ _ _ | .iadr _ _ _ | .idx _ _ _ _ _ | .ext _ _ | .mn _ _ | .mx _ _ | .len _ => .pure
  | .load _ _ x | .slc _ x _ _ | .mlen x => .load x
  | .lookup _ _ _ m _ => .load m
  | .alloc _ | .box _ _ | .bslice _ _ _ _ | .mkslice _ _ _ _ => .new
  | .store _ x _ => .store x
  | .append _ _ x y => .app x y
  | .call _ _ => .call
  | .mapent _ _ m _ => .ment m
  | _ => .other

def isNew : Cl → Bool | .new => true | _ => false
/-- Does a call stand beside such, in an open order? -/
def loadsOrNew : Cl → Bool | .new | .load _ => true | _ => false

/-- The kind of an operation of a region that draws its order. -/
inductive Kd where
  | pure
  | load (x : X)
  | hole (j : Nat)
  | store (x : X)
  | app (x y : X)
  | pc (hide : List Nat)
  | ment (m : X)
  | other
def kd (d : DM × Ins) : Kd :=
  match d.1, d.2.i.cl with
  | .plain, .pure => .pure
  | .plain, .load x => .load x
  | .hole j, .new => .hole j
  | .plain, .store x => .store x
  | .plain, .app x y => .app x y
  | .pcall hide, .call => .pc hide
  | .plain, .ment m => .ment m
  | _, _ => .other
def Kd.isPure : Kd → Bool | .pure => true | _ => false

/-- May two operations, the first ahead of the second in the text, change places; and what is to be asked. -/
def pairK (x y : Kd) (sameMap : Bool) : Option (List Chk) :=
  match x, y with
  | .pure, _ | _, .pure => some []
  | .load _, .load _ => some []
  | .load a, .hole j => some [.nh a j]
  | .load a, .store b => some [.ne a b]
  | .load a, .app b _ => some [.ne a b]
  | .load _, .pc _ => some []
  | .load _, .ment _ => if sameMap then some [] else none
  | .hole j, .load b => some [.nh b j]
  | .hole i, .hole j => if i = j then none else some []
  | .hole j, .store b => some [.nh b j]
  | .app a _, .load b => some [.ne a b, .lt b]
  | .app a b, .hole j => some [.nh a j, .nh b j]
  | .pc _, .load b => some [.lt b]
  | .pc hide, .hole j => if hide.contains j then some [] else none
  | _, _ => none

/-- The bits of all that stand ahead of each. -/
def befs (ops : List Oper) : List Nat :=
  ops.foldl (fun acc o => acc ++ [o.after.toList.foldl (fun s e => if Region.binds .any e then s ||| 2 ^ e.on ||| acc.getD e.on 0 else s) 0]) []

def sameZero : I → I → Bool
  | .lookup kk z false (.t a) (.t k), .mapent kk' z' (.t b) (.t k') => a == b && k == k' && decide (kk = kk') && (match z, z' with | .int k n, .int k' m => k == k' && n == m | _, _ => false)
  | _, _ => false

def nums : List Ins → Nat → List Nat
  | [], _ => []
  | x :: xs, n => n :: nums xs (if isNew x.i.cl then n + 1 else n)

def unord (bs : List Nat) (i j : Nat) : Bool := !((bs.getD j 0).testBit i) && !((bs.getD i 0).testBit j)

/-- How each operation of a region that draws its order is to be made. -/
def modes (bs : List Nat) (is : List Ins) : List (DM × Ins) :=
  let cn : List (Ins × Nat) := is.zip (nums is 0)
  let mode (j : Nat) (x : Ins × Nat) : DM :=
    match x.1.i.cl with
    | .new => .hole x.2
    | .call => if cn.zipIdx.any fun y => y.2 != j && unord bs y.2 j && loadsOrNew y.1.1.i.cl then .pcall ((cn.zipIdx.filter fun y => isNew y.1.1.i.cl && unord bs y.2 j).map fun y => y.1.2) else .plain
    | _ => .plain
  cn.zipIdx.map fun x => (mode x.2 x.1, x.1.1)

/-- Of two operations, x ahead of y in the text: y writes nothing that x looks at (unless x looks at no memory); and, if their order is open: they may change places. -/
def nwB (x y : DM × Ins) : Bool := (kd x).isPure || (match y.2.dst with | some d => !(x.2.reads.contains d) | none => true)
def holeNe (x y : DM × Ins) : Bool := match x.1, y.1 with | .hole i, .hole j => i != j | _, _ => true
def pairOk (bs : List Nat) (x y : (DM × Ins) × Nat) : Option (List Chk) :=
  if nwB x.1 y.1 && holeNe x.1 y.1 then
    if (bs.getD y.2 0).testBit x.2 then some []
    else if x.1.2.apart y.1.2 then pairK (kd x.1) (kd y.1) (sameZero x.1.2.i y.1.2.i) else none
  else none
def selfOk (x : DM × Ins) : Bool := nwB x x
/-- What one operation asks, of all that stand behind it. -/
def rowOk (bs : List Nat) (x : (DM × Ins) × Nat) : List ((DM × Ins) × Nat) → Option (List Chk)
  | [] => some []
  | y :: ys => match pairOk bs x y, rowOk bs x ys with | some a, some b => some (a ++ b) | _, _ => none
def allOk (bs : List Nat) : List ((DM × Ins) × Nat) → Option (List Chk)
  | [] => some []
  | x :: xs => if selfOk x.1 then (match rowOk bs x xs, allOk bs xs with | some a, some b => some (a ++ b) | _, _ => none) else none

def holes : List (DM × Ins) → Nat
  | [] => 0
  | (.hole j, _) :: xs => max (j + 1) (holes xs)
  | _ :: xs => holes xs

def compDraw (nt : Nat) (ops : List Oper) : Option MC :=
  match ops.mapM (compIns P nt ops) with
  | none => none
  | some is =>
    let bs := befs ops
    let dl := modes bs is
    if (ops.zipIdx.all fun o => o.1.after.toList.all fun e => !Region.binds .any e || decide (e.on < o.2)) then
      (allOk bs dl.zipIdx).map fun cs => .dreg (holes dl) dl cs
    else none

def noR : MC → Bool
  | .skip | .reg _ | .dreg _ _ _ | .exit _ | .ret => true
  | .seq a b | .cond _ a b => noR a && noR b
  | .block _ a | .loop a => noR a
  | .rangef _ _ _ _ => false

def comp (nt : Nat) : Code → Option MC
  | .skip => some .skip
  | .region _ ops draw => if draw then compDraw P nt ops.toList else (ops.toList.mapM (compIns P nt ops.toList)).map .reg
  | .seq a b => match comp nt a, comp nt b with | some x, some y => some (.seq x y) | _, _ => none
  | .cond c a b => match comp nt a, comp nt b with | some x, some y => some (.cond (cX c) x y) | _, _ => none
  | .block id a => (comp nt a).map (.block id)
  | .loop a => (comp nt a).map .loop
  | .exit id => some (.exit id)
  | .ret => some .ret
  | .scope a => comp nt a
  | .label _ => some .skip
  | .rangeFunc f ps a b => match comp nt a, comp nt b with
    | some x, some y => if noR x && noR y && ps.toList.all (fun p => decide (p < nt)) then some (.rangef (cX f) ps.toList x y) else none
    | _, _ => none
  | .goto _ => none
  | .refuse _ => none

def compRV : ResultVar → Option RV
  | .tmp t => some (.t t)
  | .cell a t => match tsize P t, tagg P t with | some n, some g => some (.c a n g) | _, _ => none
def compF (fn : Func) : Option FC :=
  match fn.body with
  | some c => match comp P fn.ntmps c, fn.results.toList.mapM (compRV P) with
    | some m, some rs => if fn.params.size + fn.nfree ≤ fn.ntmps then some ⟨fn.params.size + fn.nfree, rs, m⟩ else none
    | _, _ => none
  | none => none
end Go.Ar
