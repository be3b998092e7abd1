/- How the abstract run's values and memory stand to the machine's: the relation, what keeps it, and the reading and writing of cells under it. -/
import Derived.Test.YtpojdgeginigjaaAr3
import Derived.Below
import Derived.Laws.Sem
import Derived.Laws.Cells
import Derived.Laws.Entries
import Derived.Laws.CopyRow
import Derived.Laws.Append
import Derived.Laws.MakeOwn
import Derived.Laws.StructEq
import Derived.Laws.Slices
import Derived.RangeFuncRecord
set_option linter.unusedSimpArgs false
set_option linter.unusedVariables false
namespace Go.Ar
open Go.RowKit

inductive LK where
  | loose
  | exact
  | grow (es sz : Nat)
/-- Where a block of the abstract run lies: the machine's block, the cell where it begins, and what is known of its slices' capacities. -/
structure Loc where
  blk : Nat
  base : Nat
  kd : LK
abbrev Rho := Nat → Option Loc
def RLe (ρ ρ' : Rho) : Prop := ∀ k L, ρ k = some L → ρ' k = some L
def capOk : LK → Nat → Nat → Nat → Prop
  | .loose, _, c, c' => c ≤ c'
  | .exact, _, c, c' => c' = c
  | .grow es sz, o, c, c' => c ≤ c' ∧ o + c' * es ≤ sz

inductive R (ρ : Rho) : V → Value → Prop
  | undef (v : Value) (h : ∀ b, v ≠ .bool b) : R ρ .undef v
  | bool (b : Bool) : R ρ (.bool b) (.bool b)
  | int (k : IntKind) (n : Int) : R ρ (.int k n) (.int k n)
  | nilp : R ρ .nilp (.pointer none)
  | ptr {k o : Nat} {L : Loc} (h : ρ k = some L) : R ρ (.ptr k o) (.pointer (some ⟨L.blk, L.base + o, none⟩))
  | nils : R ρ .nils (.slice none 0 0)
  | es (a : Option Addr) (c : Nat) : R ρ .es (.slice a 0 c)
  | sl {k o n c c' : Nat} {L : Loc} (h : ρ k = some L) (hc : capOk L.kd o c c') : R ρ (.sl k o n c) (.slice (some ⟨L.blk, L.base + o, none⟩) n c')
  | nilm : R ρ .nilm (.map none)
  | map {k : Nat} {L : Loc} (h : ρ k = some L) : R ρ (.map k) (.map (some L.blk))
  | nilf : R ρ .nilf .nilFunc
  | fn {f : Nat} {a b : List V} {a' b' : Array Value} (ha : a.length = a'.toList.length) (hb : b.length = b'.toList.length)
      (h1 : ∀ (i : Nat) (v : V) (v' : Value), a[i]? = some v → a'.toList[i]? = some v' → R ρ v v') (h2 : ∀ (i : Nat) (v : V) (v' : Value), b[i]? = some v → b'.toList[i]? = some v' → R ρ v v') :
      R ρ (.fn f a b) (.func (.func f) a' b')
  | yld {k : Nat} {L : Loc} (h : ρ k = some L) : R ρ (.yld k) (.func (.yield L.blk) #[] #[])
  | agg {cs : List V} {cs' : Array Value} (h : cs.length = cs'.toList.length) (h1 : ∀ (i : Nat) (v : V) (v' : Value), cs[i]? = some v → cs'.toList[i]? = some v' → R ρ v v') : R ρ (.agg cs) (.agg cs')
  | tup {cs : List V} {cs' : Array Value} (h : cs.length = cs'.toList.length) (h1 : ∀ (i : Nat) (v : V) (v' : Value), cs[i]? = some v → cs'.toList[i]? = some v' → R ρ v v') : R ρ (.tup cs) (.tuple cs')

theorem R.mono {ρ ρ' : Rho} (h : RLe ρ ρ') {v : V} {v' : Value} (hr : R ρ v v') : R ρ' v v' := by
  induction hr with
  | undef v h => exact .undef v h
  | bool b => exact .bool b
  | int k n => exact .int k n
  | nilp => exact .nilp
  | ptr hk => exact .ptr (h _ _ hk)
  | nils => exact .nils
  | es a c => exact .es a c
  | sl hk hc => exact .sl (h _ _ hk) hc
  | nilm => exact .nilm
  | map hk => exact .map (h _ _ hk)
  | nilf => exact .nilf
  | fn ha hb _ _ i1 i2 => exact .fn ha hb i1 i2
  | yld hk => exact .yld (h _ _ hk)
  | agg hl _ ih => exact .agg hl ih
  | tup hl _ ih => exact .tup hl ih

def RL (ρ : Rho) (l : List V) (l' : List Value) : Prop := l.length = l'.length ∧ ∀ (i : Nat) (v : V) (v' : Value), l[i]? = some v → l'[i]? = some v' → R ρ v v'

theorem RL.mono {ρ ρ' : Rho} (h : RLe ρ ρ') {l : List V} {l' : List Value} (hr : RL ρ l l') : RL ρ' l l' := ⟨hr.1, fun i v v' h1 h2 => (hr.2 i v v' h1 h2).mono h⟩
theorem RL.nil (ρ : Rho) : RL ρ [] [] := ⟨rfl, fun i v v' h => by simp at h⟩
theorem RL.cons {ρ : Rho} {v : V} {v' : Value} {l : List V} {l' : List Value} (h : R ρ v v') (hl : RL ρ l l') : RL ρ (v :: l) (v' :: l') := by
  refine ⟨by simp [hl.1], fun i u u' h1 h2 => ?_⟩
  cases i with
  | zero => simp at h1 h2; subst h1; subst h2; exact h
  | succ i => exact hl.2 i u u' (by simpa using h1) (by simpa using h2)
theorem RL.uncons {ρ : Rho} {v : V} {l : List V} {l' : List Value} (h : RL ρ (v :: l) l') : ∃ v' r, l' = v' :: r ∧ R ρ v v' ∧ RL ρ l r := by
  cases l' with
  | nil => have := h.1; simp at this
  | cons v' r =>
    refine ⟨v', r, rfl, h.2 0 _ _ rfl rfl, by have := h.1; simpa using this, fun i u u' h1 h2 => h.2 (i + 1) u u' (by simpa using h1) (by simpa using h2)⟩
theorem RL.append {ρ : Rho} {a b : List V} {a' b' : List Value} (ha : RL ρ a a') (hb : RL ρ b b') : RL ρ (a ++ b) (a' ++ b') := by
  refine ⟨by simp [ha.1, hb.1], fun i v v' h1 h2 => ?_⟩
  by_cases hi : i < a.length
  · rw [List.getElem?_append_left hi] at h1; rw [List.getElem?_append_left (by have := ha.1; omega)] at h2; exact ha.2 i v v' h1 h2
  · rw [List.getElem?_append_right (by omega)] at h1; rw [List.getElem?_append_right (by have := ha.1; omega)] at h2
    rw [← ha.1] at h2
    exact hb.2 _ v v' h1 h2
theorem RL.get {ρ : Rho} {l : List V} {l' : List Value} (h : RL ρ l l') {i : Nat} {v : V} (hv : l[i]? = some v) : ∃ v', l'[i]? = some v' ∧ R ρ v v' := by
  have hi : i < l.length := (List.getElem?_eq_some_iff.1 hv).1
  have hi' : i < l'.length := by rw [← h.1]; exact hi
  exact ⟨l'[i], List.getElem?_eq_getElem hi', h.2 i _ _ hv (List.getElem?_eq_getElem hi')⟩
theorem RL.drop {ρ : Rho} {l : List V} {l' : List Value} (h : RL ρ l l') (n : Nat) : RL ρ (l.drop n) (l'.drop n) :=
  ⟨by simp [h.1], fun i v v' h1 h2 => h.2 (n + i) v v' (by simpa using h1) (by simpa using h2)⟩
theorem RL.take {ρ : Rho} {l : List V} {l' : List Value} (h : RL ρ l l') (n : Nat) : RL ρ (l.take n) (l'.take n) := by
  refine ⟨by simp [h.1], fun i v v' h1 h2 => ?_⟩
  by_cases hi : i < n
  · simp [hi] at h1 h2; exact h.2 i v v' h1 h2
  · simp [List.getElem?_take, hi] at h1
theorem RL.set {ρ : Rho} {l : List V} {l' : List Value} (h : RL ρ l l') {v : V} {v' : Value} (hv : R ρ v v') (n : Nat) : RL ρ (l.set n v) (l'.set n v') := by
  refine ⟨by simp [h.1], fun i u u' h1 h2 => ?_⟩
  rw [List.getElem?_set] at h1 h2
  by_cases hi : n = i
  · subst hi
    simp only [if_pos] at h1 h2
    split at h1 <;> rename_i hl
    · split at h2
      · cases h1; cases h2; exact hv
      · cases h2
    · cases h1
  · simp only [if_neg hi] at h1 h2; exact h.2 i u u' h1 h2
theorem RL.map {ρ : Rho} {α : Type} {f : α → V} {g : α → Value} (l : List α) (h : ∀ x ∈ l, R ρ (f x) (g x)) : RL ρ (l.map f) (l.map g) := by
  induction l with
  | nil => exact RL.nil ρ
  | cons x l ih => exact RL.cons (h x (by simp)) (ih fun y hy => h y (by simp [hy]))
theorem RL.flat {ρ : Rho} {l : List V} {l' : List Value} (h : RL ρ l l') : ∀ n, RL ρ (List.replicate n l).flatten (List.replicate n l').flatten
  | 0 => RL.nil ρ
  | n + 1 => by simp only [List.replicate_succ, List.flatten_cons]; exact h.append (h.flat n)

theorem R.ofAgg {ρ : Rho} {cs : List V} {cs' : Array Value} (h : RL ρ cs cs'.toList) : R ρ (.agg cs) (.agg cs') := .agg h.1 h.2
theorem R.ofTup {ρ : Rho} {cs : List V} {cs' : Array Value} (h : RL ρ cs cs'.toList) : R ρ (.tup cs) (.tuple cs') := .tup h.1 h.2
theorem R.toAgg {ρ : Rho} {cs : List V} {v : Value} (h : R ρ (.agg cs) v) : ∃ cs', v = .agg cs' ∧ RL ρ cs cs'.toList := by cases h with | agg h h1 => exact ⟨_, rfl, h, h1⟩
theorem R.toTup {ρ : Rho} {cs : List V} {v : Value} (h : R ρ (.tup cs) v) : ∃ cs', v = .tuple cs' ∧ RL ρ cs cs'.toList := by cases h with | tup h h1 => exact ⟨_, rfl, h, h1⟩

theorem R.oneCell {ρ : Rho} {v : V} {v' : Value} (h : R ρ v v') (hs : v.scalar = true) : v'.oneCell' = true := by
  cases h <;> first | rfl | (simp [V.scalar] at hs)
theorem R.cellsOne {ρ : Rho} {v : V} {v' : Value} (h : R ρ v v') {cs : List V} (hs : v.cells = some cs) : RL ρ cs v'.cells.toList := by
  cases h <;> simp only [V.cells, Option.some.injEq] at hs <;> first
    | (cases hs; done)
    | (subst hs; refine RL.cons ?_ (RL.nil _); constructor <;> assumption)
    | (subst hs; exact ⟨by assumption, by assumption⟩)

/-- Temporaries: nt of them; each as the abstract one. -/
def RT (ρ : Rho) (nt : Nat) (τ : Nat → V) (tmps : Array Value) : Prop := tmps.size = nt ∧ ∀ t, R ρ (τ t) (tmps.getD t undef)
theorem RT.mono {ρ ρ' : Rho} (h : RLe ρ ρ') {nt : Nat} {τ : Nat → V} {tmps : Array Value} (hr : RT ρ nt τ tmps) : RT ρ' nt τ tmps := ⟨hr.1, fun t => (hr.2 t).mono h⟩
theorem RT.set {ρ : Rho} {nt : Nat} {τ : Nat → V} {tmps : Array Value} (h : RT ρ nt τ tmps) {d : Nat} (hd : d < nt) {v : V} {v' : Value} (hv : R ρ v v') : RT ρ nt (upd τ d v) (tmps.setIfInBounds d v') := by
  refine ⟨by simp [h.1], fun t => ?_⟩
  unfold upd
  by_cases ht : t = d
  · subst ht
    have : (tmps.setIfInBounds t v').getD t undef = v' := by simp [Array.getD, h.1, hd]
    rw [this]; simpa using hv
  · have : (tmps.setIfInBounds d v').getD t undef = tmps.getD t undef := by
      simp only [Array.getD_eq_getD_getElem?, Array.getElem?_setIfInBounds]
      rw [if_neg (by omega)]
    rw [this]
    have hb : (t == d) = false := by simpa using ht
    rw [hb]; exact h.2 t

theorem absS_ok (ρ : Rho) (v : Value) : R ρ (absS v) v := by
  unfold absS
  split
  case h_7 => exact .undef _ fun b hb => by simp_all
  all_goals constructor
theorem absV_ok (ρ : Rho) (v : Value) : R ρ (absV v) v := by
  unfold absV
  split
  · rename_i cs
    exact R.ofAgg (by have := RL.map (ρ := ρ) (f := absS) (g := id) cs.toList (fun x _ => absS_ok ρ x); simpa using this)
  · exact absS_ok ρ _
theorem ev_ok {ρ : Rho} {nt : Nat} {τ : Nat → V} {a : Act} (h : RT ρ nt τ a.tmps) (x : Operand) : R ρ (ev τ (cX x)) (a.eval x) := by
  cases x with
  | tmp t => exact h.2 t
  | const v => exact absV_ok ρ v
  | global g => exact .undef _ (fun b hb => by simp [Act.eval] at hb)
  | func f => exact .fn rfl rfl (by simp) (by simp)

/-! ### Memory -/
def Blk.live : Blk → Bool | .dead => false | _ => true
def Blk.own : Blk → Bool
  | .dead => false
  | .cells _ m => m.wr
  | _ => true

def jumpOf : Ex → Option Code
  | .normal => none
  | .exit i => some (.exit i)
  | .ret => some .ret
def LSOk : LS → Loop → Prop
  | .ready, lo => lo.state = .ready ∧ lo.pending = none
  | .busy, lo => lo.state = .busy
  | .done e, lo => lo.state = .done ∧ lo.pending = jumpOf e ∧ e ≠ .normal

def ModeOk (B0 : Nat) (m : Mode) (L : Loc) (fr : Nat × Nat) (csz n : Nat) : Prop :=
  match m with
  | .ro => ∀ es sz, L.kd ≠ .grow es sz
  | .rg es => L.kd = .grow es csz
  | .ex => B0 ≤ L.blk ∧ fr = (0, 0) ∧ L.base = 0 ∧ L.kd = .exact ∧ csz = n
  | .gr es => B0 ≤ L.blk ∧ fr = (0, 0) ∧ L.base = 0 ∧ L.kd = .grow es csz

def MapOk (ρ : Rho) (es : List (V × V)) (entries : Array MapEntry) (clock : Nat) : Prop :=
  entries.size = es.length ∧ clock = es.length ∧ ∀ (i : Nat) (kv : V × V), es[i]? = some kv → ∃ e, entries[i]? = some e ∧ R ρ kv.1 e.key ∧ R ρ kv.2 e.val ∧ e.born = i

def BlkOk (P : Program) (B0 : Nat) (ρ : Rho) (L : Loc) (w : World) : Blk → Prop
  | .dead => True
  | .cells cs m => ∃ c T fr, w.heap[L.blk]? = some (.cells c T fr) ∧ (∀ (i : Nat) (v : V), cs[i]? = some v → ∃ v', c[L.base + i]? = some v' ∧ R ρ v v') ∧ ModeOk B0 m L fr c.size cs.length
  | .mp es => ∃ entries clock, w.heap[L.blk]? = some (.map entries clock) ∧ B0 ≤ L.blk ∧ MapOk ρ es entries clock
  | .lp τ ps asg body st => ∃ (lo : Loop) (nt : Nat), w.heap[L.blk]? = some (.loop lo) ∧ B0 ≤ L.blk ∧ RT ρ nt τ lo.tmps ∧ lo.params.toList = ps ∧ (∀ p ∈ ps, p < nt) ∧ comp P nt lo.assign = some asg ∧ comp P nt lo.body = some body ∧ noR asg = true ∧ noR body = true ∧ LSOk st lo

theorem BlkOk.mono {P : Program} {B0 : Nat} {ρ ρ' : Rho} (h : RLe ρ ρ') {L : Loc} {w : World} {b : Blk} (hb : BlkOk P B0 ρ L w b) : BlkOk P B0 ρ' L w b := by
  cases b with
  | dead => trivial
  | cells cs m =>
    obtain ⟨c, T, fr, h1, h2, h3⟩ := hb
    exact ⟨c, T, fr, h1, fun i v hv => let ⟨v', a, b⟩ := h2 i v hv; ⟨v', a, b.mono h⟩, h3⟩
  | mp es =>
    obtain ⟨en, cl, h1, h0, h2, h3, h4⟩ := hb
    exact ⟨en, cl, h1, h0, h2, h3, fun i kv hi => let ⟨e, a, b, c, d⟩ := h4 i kv hi; ⟨e, a, b.mono h, c.mono h, d⟩⟩
  | lp τ ps asg body st =>
    obtain ⟨lo, nt, h1, h0, h2, h3⟩ := hb
    exact ⟨lo, nt, h1, h0, h2.mono h, h3⟩
theorem BlkOk.heap {P : Program} {B0 : Nat} {ρ : Rho} {L : Loc} {w w' : World} {b : Blk} (hb : BlkOk P B0 ρ L w b) (h : w'.heap[L.blk]? = w.heap[L.blk]?) : BlkOk P B0 ρ L w' b := by
  cases b with
  | dead => trivial
  | cells cs m => obtain ⟨c, T, fr, h1, h2⟩ := hb; exact ⟨c, T, fr, h.trans h1, h2⟩
  | mp es => obtain ⟨en, cl, h1, h2⟩ := hb; exact ⟨en, cl, h.trans h1, h2⟩
  | lp τ ps asg body st => obtain ⟨lo, nt, h1, h2⟩ := hb; exact ⟨lo, nt, h.trans h1, h2⟩
theorem BlkOk.lt {P : Program} {B0 : Nat} {ρ : Rho} {L : Loc} {w : World} {b : Blk} (hb : BlkOk P B0 ρ L w b) (hl : b.live = true) : L.blk < w.heap.size := by
  cases b with
  | dead => simp [Blk.live] at hl
  | cells cs m => obtain ⟨c, T, fr, h1, h2⟩ := hb; exact (Array.getElem?_eq_some_iff.1 h1).1
  | mp es => obtain ⟨en, cl, h1, h2⟩ := hb; exact (Array.getElem?_eq_some_iff.1 h1).1
  | lp τ ps asg body st => obtain ⟨lo, nt, h1, h2⟩ := hb; exact (Array.getElem?_eq_some_iff.1 h1).1
theorem BlkOk.low {P : Program} {B0 : Nat} {ρ : Rho} {L : Loc} {w : World} {b : Blk} (hb : BlkOk P B0 ρ L w b) (hl : b.own = true) : B0 ≤ L.blk := by
  cases b with
  | dead => simp [Blk.own] at hl
  | cells cs m =>
    obtain ⟨c, T, fr, h1, h2, h3⟩ := hb
    cases m with
    | ro => simp [Blk.own, Mode.wr] at hl
    | rg es => simp [Blk.own, Mode.wr] at hl
    | ex => exact h3.1
    | gr es => exact h3.1
  | mp es => obtain ⟨en, cl, h1, h2, _⟩ := hb; exact h2
  | lp τ ps asg body st => obtain ⟨lo, nt, h1, h2, _⟩ := hb; exact h2
theorem BlkOk.notDef {P : Program} {B0 : Nat} {ρ : Rho} {L : Loc} {w : World} {b : Blk} (hb : BlkOk P B0 ρ L w b) (hl : b.live = true) (d : Option (List Deferred)) : w.heap[L.blk]? ≠ some (.deferred d) := by
  cases b with
  | dead => simp [Blk.live] at hl
  | cells cs m => obtain ⟨c, T, fr, h1, h2⟩ := hb; rw [h1]; simp
  | mp es => obtain ⟨en, cl, h1, h2⟩ := hb; rw [h1]; simp
  | lp τ ps asg body st => obtain ⟨lo, nt, h1, h2⟩ := hb; rw [h1]; simp
theorem Blk.own_live {b : Blk} (h : b.own = true) : b.live = true := by
  cases b <;> first | rfl | (simp [Blk.own] at h)

/-- The abstract memory H, and the machine's world w: B0, w0: since when nothing below B0 has turned; D: the blocks for deferred calls. -/
structure Sim (P : Program) (B0 : Nat) (w0 : World) (ρ : Rho) (H : Heap) (D : List Nat) (w : World) : Prop where
  out : ∀ k, H.length ≤ k → ρ k = none
  base : B0 ≤ w0.heap.size
  low : Below B0 w0 w
  blk : ∀ (k : Nat) (b : Blk), H[k]? = some b → b.live = true → ∃ L, ρ k = some L ∧ BlkOk P B0 ρ L w b
  sep : ∀ (k k' : Nat) (b b' : Blk) (L L' : Loc), k ≠ k' → H[k]? = some b → b.own = true → H[k']? = some b' → b'.live = true → ρ k = some L → ρ k' = some L' → L.blk ≠ L'.blk
  dfr : ∀ r ∈ D, B0 ≤ r ∧ w.heap[r]? = some (.deferred (some []))

def Agree (n : Nat) (ρ ρ' : Rho) : Prop := ∀ k, k < n → ρ' k = ρ k
theorem Agree.refl (n : Nat) (ρ : Rho) : Agree n ρ ρ := fun _ _ => rfl
theorem Agree.trans {n m : Nat} {a b c : Rho} (h : Agree n a b) (h' : Agree m b c) (hnm : n ≤ m) : Agree n a c := fun k hk => (h' k (by omega)).trans (h k hk)

variable {P : Program} {B0 : Nat} {w0 : World} {ρ : Rho} {H : Heap} {D : List Nat} {w : World}

theorem Sim.le (hS : Sim P B0 w0 ρ H D w) {ρ' : Rho} (ha : Agree H.length ρ ρ') : RLe ρ ρ' := fun k L hk => by
  by_cases h : k < H.length
  · rw [ha k h]; exact hk
  · rw [hS.out k (by omega)] at hk; cases hk

def ext (ρ : Rho) (n : Nat) (L : Loc) : Rho := fun k => if k = n then some L else ρ k
theorem agree_ext (ρ : Rho) (n : Nat) (L : Loc) : Agree n ρ (ext ρ n L) := fun k hk => by unfold ext; rw [if_neg (by omega)]
theorem le_ext {n : Nat} (h : ρ n = none) (L : Loc) : RLe ρ (ext ρ n L) := fun k M hk => by
  unfold ext
  by_cases e : k = n
  · subst e; rw [h] at hk; cases hk
  · rw [if_neg e]; exact hk

/-- A draw is not seen. -/
theorem Sim.heapEq (hS : Sim P B0 w0 ρ H D w) {w' : World} (hh : w'.heap = w.heap) (ho : w'.os = w.os) (ht : w'.tape = w.tape) (hu : w'.output = w.output) : Sim P B0 w0 ρ H D w' :=
  ⟨hS.out, hS.base, ⟨ho.trans hS.low.os, ht.trans hS.low.tape, hu.trans hS.low.output, by rw [hh]; exact hS.low.size, fun k hk => by rw [hh]; exact hS.low.block k hk⟩,
   fun k b h hl => let ⟨L, h1, h2⟩ := hS.blk k b h hl; ⟨L, h1, h2.heap (by rw [hh])⟩, hS.sep, fun r hr => by rw [hh]; exact hS.dfr r hr⟩
theorem Sim.drew (hS : Sim P B0 w0 ρ H D w) : Sim P B0 w0 ρ H D w.drew := hS.heapEq rfl rfl rfl rfl

theorem Sim.sizeLe (hS : Sim P B0 w0 ρ H D w) : B0 ≤ w.heap.size := Nat.le_trans hS.base hS.low.size

/-- A new block, at the end of the abstract memory; or in a hole of it. -/
theorem Sim.newAt (hS : Sim P B0 w0 ρ H D w) (o : Obj) (b : Blk) (L : Loc) (hL : L.blk = w.heap.size) {n : Nat} {H' : Heap} (hn : ρ n = none)
    (hold : ∀ k, k ≠ n → ∀ c, H'[k]? = some c → c.live = true → H[k]? = some c) (hnew : ∀ c, H'[n]? = some c → c = b) (hlen : H.length ≤ H'.length) (hnl : n < H'.length)
    (hb : b.live = true → BlkOk P B0 (ext ρ n L) L (w.alloc o) b) : Sim P B0 w0 (ext ρ n L) H' D (w.alloc o) := by
  have hle : RLe ρ (ext ρ n L) := le_ext hn L
  have hkeep : ∀ (L' : Loc) (c : Blk), BlkOk P B0 ρ L' w c → c.live = true → BlkOk P B0 (ext ρ n L) L' (w.alloc o) c := fun L' c hc hl =>
    (hc.mono hle).heap (Below.heap_alloc w o _ (hc.lt hl))
  have hne : ∀ k c, k ≠ n → H'[k]? = some c → c.live = true → ∃ L', ρ k = some L' ∧ L'.blk < w.heap.size ∧ BlkOk P B0 ρ L' w c := fun k c hk hc hl => by
    obtain ⟨L', h1, h2⟩ := hS.blk k c (hold k hk c hc hl) hl
    exact ⟨L', h1, h2.lt hl, h2⟩
  refine ⟨fun k hk => ?_, hS.base, hS.low.alloc hS.sizeLe o, fun k c hc hl => ?_, fun k k' c c' M M' hkk hc hco hc' hcl hM hM' => ?_, fun r hr => ?_⟩
  · unfold ext; rw [if_neg (by omega)]; exact hS.out k (by omega)
  · by_cases hk : k = n
    · subst hk
      have := hnew c hc; subst this
      exact ⟨L, by simp [ext], hb hl⟩
    · obtain ⟨L', h1, _, h2⟩ := hne k c hk hc hl
      exact ⟨L', hle _ _ h1, hkeep L' c h2 hl⟩
  · have hcl0 := Blk.own_live hco
    by_cases hk : k = n
    · subst hk
      have hk' : k' ≠ k := fun e => hkk e.symm
      obtain ⟨L', h1, h2, _⟩ := hne k' c' hk' hc' hcl
      have e1 : M = L := by simp [ext] at hM; exact hM.symm
      have e2 : M' = L' := by unfold ext at hM'; rw [if_neg hk', h1] at hM'; exact (Option.some.inj hM').symm
      subst e1; subst e2; omega
    · obtain ⟨L1, h1, h1l, _⟩ := hne k c hk hc hcl0
      have e1 : M = L1 := by unfold ext at hM; rw [if_neg hk, h1] at hM; exact (Option.some.inj hM).symm
      by_cases hk' : k' = n
      · subst hk'
        have e2 : M' = L := by simp [ext] at hM'; exact hM'.symm
        subst e1; subst e2; omega
      · unfold ext at hM hM'
        rw [if_neg hk] at hM; rw [if_neg hk'] at hM'
        exact hS.sep k k' c c' M M' hkk (hold k hk c hc hcl0) hco (hold k' hk' c' hc' hcl) hcl hM hM'
  · obtain ⟨h1, h2⟩ := hS.dfr r hr
    exact ⟨h1, (Below.heap_alloc w o r (Array.getElem?_eq_some_iff.1 h2).1).trans h2⟩

theorem Sim.new (hS : Sim P B0 w0 ρ H D w) (o : Obj) (b : Blk) (L : Loc) (hL : L.blk = w.heap.size) (hb : b.live = true → BlkOk P B0 (ext ρ H.length L) L (w.alloc o) b) :
    Sim P B0 w0 (ext ρ H.length L) (H ++ [b]) D (w.alloc o) := by
  refine hS.newAt o b L hL (hS.out _ (Nat.le_refl _)) (fun k hk c hc _ => ?_) (fun c hc => ?_) (by simp) (by simp) hb
  · have hlt : k < (H ++ [b]).length := (List.getElem?_eq_some_iff.1 hc).1
    simp at hlt
    rwa [List.getElem?_append_left (by omega)] at hc
  · rw [List.getElem?_append_right (Nat.le_refl _)] at hc; simp at hc; exact hc.symm

/-- One own block turned. -/
theorem Sim.mod (hS : Sim P B0 w0 ρ H D w) {k : Nat} {b b' : Blk} {L : Loc} (hk : H[k]? = some b) (hbo : b.own = true) (hL : ρ k = some L) {w' : World}
    (ho : w'.os = w.os) (ht : w'.tape = w.tape) (hu : w'.output = w.output) (hsz : w'.heap.size = w.heap.size) (hoth : ∀ j, j ≠ L.blk → w'.heap[j]? = w.heap[j]?)
    (hb' : b'.live = true → BlkOk P B0 ρ L w' b') : Sim P B0 w0 ρ (H.set k b') D w' := by
  have hok : BlkOk P B0 ρ L w b := by
    obtain ⟨L', h1, h2⟩ := hS.blk k b hk (Blk.own_live hbo)
    rw [hL] at h1; cases h1; exact h2
  have hlow := hok.low hbo
  have hget : ∀ j c, (H.set k b')[j]? = some c → (j = k ∧ c = b') ∨ (j ≠ k ∧ H[j]? = some c) := fun j c hc => by
    rw [List.getElem?_set] at hc
    by_cases e : k = j
    · subst e; simp only [if_pos] at hc; split at hc
      · cases hc; exact .inl ⟨rfl, rfl⟩
      · cases hc
    · rw [if_neg e] at hc; exact .inr ⟨fun h => e h.symm, hc⟩
  refine ⟨fun j hj => hS.out j (by simpa using hj), hS.base, ⟨ho.trans hS.low.os, ht.trans hS.low.tape, hu.trans hS.low.output, by rw [hsz]; exact hS.low.size, fun j hj => (hoth j (by omega)).trans (hS.low.block j hj)⟩, fun j c hc hl => ?_, fun j j' c c' M M' hjj hc hco hc' hcl hM hM' => ?_, fun r hr => ?_⟩
  · rcases hget j c hc with ⟨rfl, rfl⟩ | ⟨hj, hc0⟩
    · exact ⟨L, hL, hb' hl⟩
    · obtain ⟨L', h1, h2⟩ := hS.blk j c hc0 hl
      exact ⟨L', h1, h2.heap (hoth _ (fun e => hS.sep k j b c L L' (Ne.symm hj) hk hbo hc0 hl hL h1 e.symm))⟩
  · rcases hget j c hc with ⟨rfl, rfl⟩ | ⟨hj, hc0⟩
    · rcases hget j' c' hc' with ⟨rfl, rfl⟩ | ⟨hj', hc0'⟩
      · exact absurd rfl hjj
      · exact hS.sep _ j' b c' M M' hjj hk hbo hc0' hcl hM hM'
    · rcases hget j' c' hc' with ⟨rfl, rfl⟩ | ⟨hj', hc0'⟩
      · have := hS.sep _ j b c M' M (Ne.symm hjj) hk hbo hc0 (Blk.own_live hco) hM' hM
        exact fun e => this e.symm
      · exact hS.sep j j' c c' M M' hjj hc0 hco hc0' hcl hM hM'
  · obtain ⟨h1, h2⟩ := hS.dfr r hr
    refine ⟨h1, (hoth r ?_).trans h2⟩
    intro e
    subst e
    exact hok.notDef (Blk.own_live hbo) _ h2

theorem Sim.kill (hS : Sim P B0 w0 ρ H D w) (k : Nat) : Sim P B0 w0 ρ (H.set k .dead) D w := by
  have hget : ∀ (j : Nat) (c : Blk), (H.set k Blk.dead)[j]? = some c → c.live = true → H[j]? = some c := fun j c hc hl => by
    rw [List.getElem?_set] at hc
    by_cases e : k = j
    · subst e; simp only [if_pos] at hc; split at hc
      · cases hc; simp [Blk.live] at hl
      · cases hc
    · rwa [if_neg e] at hc
  exact ⟨fun j hj => hS.out j (by simpa using hj), hS.base, hS.low, fun j c hc hl => hS.blk j c (hget j c hc hl) hl,
    fun j j' c c' M M' hjj hc hco hc' hcl hM hM' => hS.sep j j' c c' M M' hjj (hget j c hc (Blk.own_live hco)) hco (hget j' c' hc' hcl) hcl hM hM', hS.dfr⟩

/-! ### Cells -/
theorem add_at (b o n : Nat) : (⟨b, o, none⟩ : Addr).add n = ⟨b, o + n, none⟩ := by unfold Addr.add; split <;> simp_all

theorem rd_ok (hS : Sim P B0 w0 ρ H D w) {k o : Nat} {v : V} (h : rd H k o = some v) {L : Loc} (hL : ρ k = some L) : ∃ v', w.cell? ⟨L.blk, L.base + o, none⟩ = some v' ∧ R ρ v v' := by
  unfold rd at h
  split at h
  · rename_i cs m hk
    obtain ⟨L', h1, c, T, fr, h2, h3, _⟩ := hS.blk k _ hk rfl
    rw [hL] at h1; cases h1
    obtain ⟨v', h4, h5⟩ := h3 o v h
    exact ⟨v', by simp [World.cell?, h2, h4], h5⟩
  · cases h

theorem rdn_ok (hS : Sim P B0 w0 ρ H D w) {k o n : Nat} {cs : List V} (h : rdn H k o n = some cs) {L : Loc} (hL : ρ k = some L) :
    ∃ cs' : List Value, RL ρ cs cs' ∧ cs.length = n ∧ ∀ j v, cs'[j]? = some v → w.cell? ((⟨L.blk, L.base + o, none⟩ : Addr).add j) = some v := by
  unfold rdn at h
  split at h
  · rename_i ds m hk
    split at h
    · rename_i hle
      cases h
      obtain ⟨L', h1, c, T, fr, h2, h3, _⟩ := hS.blk k _ hk rfl
      rw [hL] at h1; cases h1
      have hc : ∀ j, j < n → ∃ v', c[L.base + (o + j)]? = some v' ∧ ∀ v, ds[o + j]? = some v → R ρ v v' := fun j hj => by
        obtain ⟨v', h4, h5⟩ := h3 (o + j) ds[o + j] (List.getElem?_eq_getElem (by omega))
        exact ⟨v', h4, fun v hv => by rw [List.getElem?_eq_getElem (by omega)] at hv; cases hv; exact h5⟩
      refine ⟨(List.range n).map fun j => c[L.base + (o + j)]?.getD undef, ⟨by simp; omega, fun i v v' hv hv' => ?_⟩, by simp; omega, fun j v hv => ?_⟩
      · by_cases hi : i < n
        · obtain ⟨u, h4, h5⟩ := hc i hi
          simp [hi] at hv
          simp [hi, h4] at hv'
          subst hv'
          exact h5 v hv
        · simp [List.getElem?_take, hi] at hv
      · by_cases hj : j < n
        · obtain ⟨u, h4, _⟩ := hc j hj
          simp [hj, h4] at hv
          subst hv
          rw [add_at]
          simp [World.cell?, h2, Nat.add_assoc, h4]
        · simp [hj] at hv
    · cases h
  · cases h

theorem getElem?_wrc : ∀ (vs : List V) (cs : List V) (o i : Nat), o + vs.length ≤ cs.length → (wrc cs o vs)[i]? = if o ≤ i ∧ i < o + vs.length then vs[i - o]? else cs[i]?
  | [], cs, o, i, _ => by simp [wrc]; intro h1 h2; omega
  | v :: vs, cs, o, i, h => by
    simp only [wrc]
    rw [getElem?_wrc vs (cs.set o v) (o + 1) i (by simp at h ⊢; omega)]
    simp only [List.length_cons] at h ⊢
    by_cases h1 : o + 1 ≤ i ∧ i < o + 1 + vs.length
    · rw [if_pos h1, if_pos ⟨by omega, by omega⟩]
      obtain ⟨j, hj⟩ : ∃ j, i - o = j + 1 := ⟨i - o - 1, by omega⟩
      rw [hj, List.getElem?_cons_succ]
      congr 1; omega
    · rw [if_neg h1, List.getElem?_set]
      by_cases h2 : o = i
      · subst h2
        rw [if_pos rfl, if_pos (by omega), if_pos ⟨by omega, by omega⟩]
        simp
      · rw [if_neg h2, if_neg (by omega)]
theorem length_wrc : ∀ (vs : List V) (cs : List V) (o : Nat), (wrc cs o vs).length = cs.length
  | [], _, _ => rfl
  | v :: vs, cs, o => by simp only [wrc]; rw [length_wrc]; simp

theorem wr_ok (hS : Sim P B0 w0 ρ H D w) {k o : Nat} {vs : List V} {H' : Heap} (h : wr H k o vs = some H') {L : Loc} (hL : ρ k = some L) {vs' : List Value} (hv : RL ρ vs vs') :
    ∃ w', (storeCells ⟨L.blk, L.base + o, none⟩ vs').run P w = .ok () w' ∧ Sim P B0 w0 ρ H' D w' := by
  unfold wr at h
  split at h
  · rename_i cs m hk
    split at h
    · cases h
    · rename_i hm
      split at h
      · rename_i hle
        split at h
        · rename_i hsc
          cases h
          have hown : (Blk.cells cs m).own = true := by simpa [Blk.own] using hm
          obtain ⟨L', h1, c, T, fr, h2, h3, h4⟩ := hS.blk k _ hk rfl
          rw [hL] at h1; cases h1
          have hfr : fr = (0, 0) := by cases m <;> first | exact absurd rfl hm | exact h4.2.1
          have hb0 : L.base = 0 := by cases m <;> first | exact absurd rfl hm | exact h4.2.2.1
          subst hfr
          have hcsz : cs.length ≤ c.size := by
            by_cases h0 : cs.length = 0
            · omega
            · obtain ⟨v', h5, _⟩ := h3 (cs.length - 1) cs[cs.length - 1] (List.getElem?_eq_getElem (by omega))
              have := (Array.getElem?_eq_some_iff.1 h5).1
              omega
          have hone : ∀ v ∈ vs', v.oneCell' = true := fun v hvm => by
            obtain ⟨i, hi, rfl⟩ := List.mem_iff_getElem.1 hvm
            have hi0 : i < vs.length := by rw [hv.1]; exact hi
            exact (hv.2 i vs[i] vs'[i] (List.getElem?_eq_getElem hi0) (List.getElem?_eq_getElem hi)).oneCell (List.all_eq_true.1 hsc _ (List.getElem_mem hi0))
          have hlv := hv.1
          have hst := run_storeCells_at P L.blk (L.base + o) T vs' 0 c w h2 (by rw [hb0]; omega) hone
          refine ⟨_, hst, ?_⟩
          refine hS.mod hk hown hL rfl rfl rfl (by simp [World.setRow]) (fun j hj => by simp only [World.setRow, Array.getElem?_modify]; rw [if_neg (by omega)]) (fun _ => ?_)
          have hlt : L.blk < w.heap.size := (Array.getElem?_eq_some_iff.1 h2).1
          refine ⟨_, T, (0, 0), setRow_heap w L.blk c _ T _ h2, fun i v hiv => ?_, ?_⟩
          · rw [hb0]
            rw [getElem?_wrc vs cs o i hle] at hiv
            have hsz : (c.toList.take (0 + o + 0) ++ vs' ++ c.toList.drop (0 + o + 0 + vs'.length)).toArray[0 + i]? = if o ≤ i ∧ i < o + vs'.length then vs'[i - o]? else c[i]? := by
              simp only [Nat.zero_add, Nat.add_zero, List.getElem?_toArray]
              by_cases hi1 : i < o
              · rw [if_neg (by omega), List.append_assoc, List.getElem?_append_left (by simp; omega), List.getElem?_take, if_pos hi1]
                simp
              · by_cases hi2 : i < o + vs'.length
                · rw [if_pos ⟨by omega, hi2⟩, List.append_assoc, List.getElem?_append_right (by simp; omega)]
                  have : (c.toList.take o).length = o := by simp; omega
                  rw [this, List.getElem?_append_left (by omega)]
                · rw [if_neg (by omega), List.getElem?_append_right (by simp; omega), List.getElem?_drop]
                  have : (c.toList.take o ++ vs').length = o + vs'.length := by simp; omega
                  rw [this]
                  rw [show o + vs'.length + (i - (o + vs'.length)) = i by omega]
                  simp
            rw [hsz]
            by_cases hin : o ≤ i ∧ i < o + vs.length
            · rw [if_pos hin] at hiv
              rw [if_pos (by rw [← hlv]; exact hin)]
              exact hv.get hiv
            · rw [if_neg hin] at hiv
              rw [if_neg (by rw [← hlv]; exact hin)]
              obtain ⟨v', h5, h6⟩ := h3 i v hiv
              rw [hb0, Nat.zero_add] at h5
              exact ⟨v', h5, h6⟩
          · have hszeq : (c.toList.take (L.base + o + 0) ++ vs' ++ c.toList.drop (L.base + o + 0 + vs'.length)).toArray.size = c.size := by simp; omega
            cases m with
            | ro => exact absurd rfl hm
            | rg es => exact absurd rfl hm
            | ex => exact ⟨h4.1, rfl, h4.2.2.1, h4.2.2.2.1, by rw [hszeq, length_wrc]; exact h4.2.2.2.2⟩
            | gr es => exact ⟨h4.1, rfl, h4.2.2.1, by rw [hszeq]; exact h4.2.2.2⟩
        · cases h
      · cases h
  · cases h
end Go.Ar
