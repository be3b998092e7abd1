/- A region that draws its order: whatever order is drawn, it comes to what the abstract run, in the text's order, comes to. -/
import Derived.Test.YtpojdgeginigjaaAr15
set_option linter.unusedSimpArgs false
set_option linter.unusedVariables false
namespace Go.Ar
open Go.RowKit

variable {P : Program} {B0 : Nat} {w0 : World} {ρ : Rho} {H : Heap} {D : List Nat} {w : World} {nt : Nat} {τ τ' : Nat → V} {a : Act} {call : CallF} {N nh : Nat}

/-! ### A new block, in a hole -/
theorem optB_new {α : Type} {o : Option α} {f : α → I} {r : Blk × (Nat → V)} (h : newOf τ (optB o f) = some r) : ∃ x, o = some x ∧ newOf τ (f x) = some r := by
  cases o with
  | none => simp [optB, newOf] at h
  | some x => exact ⟨x, rfl, h⟩

/-- What is laid, and how its value looks. -/
def Laid (P : Program) (ρ : Rho) (w : World) (s : Sem Next) (b : Blk) (mk : Nat → V) : Prop :=
  ∃ (v' : Value) (cs' : Array Value) (T : TypeId) (cs : List V), s.run P w = .ok (.value v') (w.alloc (.cells cs' T)) ∧ b = .cells cs .ex ∧ RL ρ cs cs'.toList ∧ ∀ (ρ' : Rho) (n : Nat), ρ' n = some (newLoc w) → R ρ' (mk n) v'

theorem laid_ptr {ρ' : Rho} {n : Nat} (h : ρ' n = some (newLoc w)) : R ρ' (.ptr n 0) (.pointer (some ⟨w.heap.size, 0, none⟩)) := by
  have := @R.ptr ρ' n 0 (newLoc w) h
  simpa [newLoc] using this
theorem laid_sl {ρ' : Rho} {n len : Nat} (h : ρ' n = some (newLoc w)) : R ρ' (.sl n 0 len len) (.slice (some ⟨w.heap.size, 0, none⟩) len len) := by
  have := @R.sl ρ' n 0 len len len (newLoc w) h rfl
  simpa [newLoc] using this

set_option maxHeartbeats 1000000 in
theorem op_new (hτ : RT ρ nt τ a.tmps) (hS : Sim P B0 w0 ρ H D w) (o : Oper) (hn : newOp o = true) {b : Blk} {mk : Nat → V} (h : newOf τ (compOp P o) = some (b, mk)) : Laid P ρ w (execOp a.eval o) b mk := by
  obtain ⟨dst, op, type, pos, after, guard⟩ := o
  have E := fun x => ev_ok hτ x
  cases op <;> (try (simp [newOp] at hn; done)) <;> simp only [compOp] at h <;> simp only [execOp]
  case alloc t =>
    obtain ⟨zs, hz, h⟩ := optB_new h
    simp only [newOf] at h
    cases h
    obtain ⟨i, z, hi, hz', hs, rfl, _⟩ := tzero_of hz
    refine ⟨.pointer (some ⟨w.heap.size, 0, none⟩), z.cells, t, _, ?_, rfl, zero_RL ρ z, fun ρ' n hn => laid_ptr hn⟩
    simp [Instr.alloc, tzero_run hi hz', run_newVar]
  case box t x =>
    obtain ⟨n, hn, h⟩ := optB_new h
    simp only [newOf] at h
    cases hc : (ev τ (cX x)).cells with
    | none => simp [hc] at h
    | some cs =>
      simp only [hc] at h
      split at h
      · cases h
        refine ⟨.pointer (some ⟨w.heap.size, 0, none⟩), (a.eval x).cells, t, _, ?_, rfl, (E x).cellsOne hc, fun ρ' n hn => laid_ptr hn⟩
        simp [Instr.box, run_newVar]
      · cases h
  case buildSlice t len parts =>
    obtain ⟨e, he, h⟩ := optB_new h
    obtain ⟨n, hn, h⟩ := optB_new h
    obtain ⟨zs, hz, h⟩ := optB_new h
    split at h
    · rename_i hc
      simp only [newOf, Option.map_eq_some_iff] at h
      obtain ⟨cs, h1, h⟩ := h
      cases h
      obtain ⟨cs', h2, h3⟩ := op_bslice hS hτ he hn hz hc.2 hc.1 h1
      exact ⟨_, cs', e, _, by simp [h3], rfl, h2, fun ρ' n hn => laid_sl hn⟩
    · simp [newOf] at h
  case makeSlice t l c =>
    cases l <;> cases c <;> (try (simp [newOf] at h; done))
    rename_i l c
    simp only at h
    split at h
    case isFalse => simp [newOf] at h
    rename_i hlc
    subst hlc
    obtain ⟨e, he, h⟩ := optB_new h
    split at h
    case h_2 => simp [newOf] at h
    rename_i i hi
    split at h
    case isFalse => simp [newOf] at h
    rename_i hsz
    obtain ⟨zs, hz, h⟩ := optB_new h
    simp only [newOf] at h
    have hx := E (.tmp l)
    simp only [cX] at hx
    cases hxv : ev τ (.t l) <;> simp only [hxv] at h hx <;> (try (cases h; done))
    rename_i k n
    split at h
    · rename_i hc
      cases h
      rw [hx.int_inv]
      obtain ⟨cs', h2, h3⟩ := op_mkslice (kk := k) hS he hi hsz hz hc.1 hc.2.1 hc.2.2
      exact ⟨_, cs', e, _, by simp [h3], rfl, h2, fun ρ' n hn => laid_sl hn⟩
    · cases h

theorem noCall_new {i : I} {r : Blk × (Nat → V)} (h : newOf τ (noCall i) = some r) : noCall i = i := by
  unfold noCall at h ⊢
  split at h
  · simp [newOf] at h
  · rfl
theorem noNew_new {i : I} {r : Blk × (Nat → V)} (h : newOf τ (noNew i) = some r) : False := by
  cases i <;> simp [noNew, newOf] at h

/-- The machine's operation behind an instruction that is made in a hole. -/
theorem hole_ok {ops : Array Oper} {i : Nat} {o : Oper} (ho : ops[i]? = some o) {x : Ins} (hx : compIns P nt ops.toList o = some x) {j : Nat} {s s' : St} (h : dins call N (.hole j, x) s = some s')
    (hS : Sim P B0 w0 ρ s.H D w) (hτ : RT ρ nt s.τ a.tmps) (hj : ρ (N + j) = none) {K : Act → World → Prop} {Q : Exit → Act → World → Prop} {ro : Option Nat} {n : Nat}
    (hK : ∀ (ρ' : Rho) (a' : Act) (w' : World), (∀ k, k ≠ N + j → ρ' k = ρ k) → Sim P B0 w0 ρ' s'.H D w' → RT ρ' nt s'.τ a'.tmps → a'.defers = a.defers → K a' w') : wpOpIn (FW ro) n P ops Q i K a w := by
  obtain ⟨h1, h2, h3, h4⟩ := compIns_of hx
  unfold wpOpIn
  simp only [ho]
  unfold dins at h
  simp only at h
  split at h
  · rename_i hw
    rw [guard_ok h3 hτ hw]
    simp only [if_true]
    split at h
    case h_2 => cases h
    rename_i b mk hb
    split at h
    case h_2 => cases h
    rename_i hdead
    cases h
    rw [h2] at hb
    rcases compOpC_cases (P := P) o with ⟨c, f0, _, _, hc⟩ | ⟨hc, hnew⟩ | hc
    · rw [hc] at hb; simp [newOf] at hb
    case inr.inr => rw [hc] at hb; exact (noNew_new hb).elim
    rw [hc] at hb
    have heq := noCall_new hb
    rw [heq] at hb
    obtain ⟨v', cs', T, cs, hrun, rfl, hRL, hmk⟩ := op_new hτ hS o hnew hb
    refine ⟨fun _ _ => trivial, ?_⟩
    rw [Oper.semAt_eq _ _ _ (by intro c hh; rw [show compOp P o = .bad by unfold compOp; rw [hh]] at hb; simp [newOf] at hb), hrun]
    have hlt : N + j < s.H.length := (List.getElem?_eq_some_iff.1 hdead).1
    have hle : RLe ρ (ext ρ (N + j) (newLoc w)) := le_ext hj _
    refine hK (ext ρ (N + j) (newLoc w)) _ _ (fun k hk => by unfold ext; rw [if_neg hk]) ?_ ?_ (put_defers _ _ _)
    · refine hS.newAt (.cells cs' T) (.cells cs .ex) (newLoc w) rfl hj (fun k hk c hc _ => ?_) (fun c hc => ?_) (by simp) (by simpa using hlt) fun _ => ⟨cs', T, (0, 0), World.alloc_heap_new w _, fun i v hv => ?_, hS.sizeLe, rfl, rfl, rfl, by rw [hRL.1]; simp⟩
      · rwa [List.getElem?_set_ne (by omega)] at hc
      · rw [List.getElem?_set_self hlt] at hc; cases hc; rfl
      · obtain ⟨u, hu, hR⟩ := hRL.get hv
        exact ⟨u, by simpa [newLoc] using hu, hR.mono hle⟩
    · rw [h1]; exact put_RT hle hτ h4 (hmk _ _ (by simp [ext]))
  · rename_i hw
    rw [guard_ok h3 hτ hw]
    simp only [Bool.false_eq_true, if_false]
    cases h
    exact ⟨fun _ _ => trivial, hK ρ _ w (fun _ _ => rfl) hS (by rw [h1]; exact put_RT (fun _ _ h => h) hτ h4 (R.undef _ undef_bool)) (put_defers _ _ _)⟩
  · cases h

/-! ### Slots -/
theorem put_comm {d e : Option Nat} {u v : V} (h : ∀ x, d = some x → e ≠ some x) : put (put τ d u) e v = put (put τ e v) d u := by
  cases d with
  | none => rfl
  | some d =>
    cases e with
    | none => rfl
    | some e =>
      have hne : d ≠ e := fun x => h d rfl (by rw [x])
      funext t
      simp only [put, upd]
      by_cases h1 : t = d
      · have : (t == e) = false := by simp; omega
        have h2 : (t == d) = true := by simpa using h1
        rw [this, h2]; rfl
      · have h2 : (t == d) = false := by simpa using h1
        rw [h2]; rfl
theorem put_other {d : Option Nat} {v : V} {t : Nat} (h : d ≠ some t) : put τ d v t = τ t := by
  cases d with
  | none => rfl
  | some d =>
    simp only [put, upd]
    have : (t == d) = false := by simp; intro e; exact h (by rw [e])
    rw [this]; rfl

theorem dins_slot {d : DM × Ins} {s s' : St} (h : dins call N d s = some s') {t : Nat} (ht : d.2.dst ≠ some t) : s'.τ t = s.τ t := by
  rw [dins_eff] at h
  simp only [Option.map_eq_some_iff] at h
  obtain ⟨p, _, rfl⟩ := h
  exact put_other ht
theorem dinsL_slot {t : Nat} : ∀ {l : List (DM × Ins)} {s s' : St}, dinsL call N l s = some s' → (∀ d ∈ l, d.2.dst ≠ some t) → s'.τ t = s.τ t
  | [], _, _, h, _ => by cases h; rfl
  | d :: l, s, s', h, hd => by
    simp only [dinsL, Option.bind_eq_some_iff] at h
    obtain ⟨s1, h1, h2⟩ := h
    exact (dinsL_slot h2 fun e he => hd e (by simp [he])).trans (dins_slot h1 (hd d (by simp)))

theorem apart_inv {x y : Ins} (h : x.apart y = true) : (∀ d, x.dst = some d → d ∉ y.reads ∧ y.dst ≠ some d) ∧ ∀ d, y.dst = some d → d ∉ x.reads := by
  unfold Ins.apart at h
  rw [Bool.and_eq_true] at h
  obtain ⟨h1, h2⟩ := h
  refine ⟨fun d hd => ?_, fun d hd => ?_⟩
  · rw [hd] at h1
    simp only [Bool.and_eq_true, Bool.not_eq_true', beq_eq_false_iff_ne, List.contains_eq_mem, decide_eq_false_iff_not] at h1
    exact ⟨h1.1, h1.2⟩
  · rw [hd] at h2
    simpa using h2

theorem dins_swap {x y : DM × Ins} (ha : x.2.apart y.2 = true) {s s1 s2 : St} {cks : List Chk} (hp : pairK (kd x) (kd y) (sameZero x.2.i y.2.i) = some cks) (hck : ∀ c ∈ cks, Chk.ok N nh s.τ c = true)
    (hN : N + nh ≤ s.H.length) (hj : ∀ j, kd y = .hole j → j < nh) (h1 : dins call N x s = some s1) (h2 : dins call N y s1 = some s2) :
    ∃ s1', dins call N y s = some s1' ∧ dins call N x s1' = some s2 := by
  obtain ⟨a1, a2⟩ := apart_inv ha
  rw [dins_eff] at h1
  simp only [Option.map_eq_some_iff] at h1
  obtain ⟨p, hp1, rfl⟩ := h1
  rw [dins_eff] at h2
  simp only [Option.map_eq_some_iff] at h2
  obtain ⟨q, hq1, rfl⟩ := h2
  have hy : eff call N y (put s.τ x.2.dst p.1) p.2 = eff call N y s.τ p.2 := eff_congr fun t ht => put_other fun e => (a1 t e).1 ht
  rw [hy] at hq1
  have key : ∃ H1', eff call N y s.τ s.H = some (q.1, H1') ∧ eff call N x s.τ H1' = some (p.1, q.2) := by
    rw [eff_act] at hp1 hq1
    cases hwx : wanted s.τ x.2.g with
    | none => rw [hwx] at hp1; cases hp1
    | some bx =>
      cases hwy : wanted s.τ y.2.g with
      | none => rw [hwy] at hq1; cases hq1
      | some bvy =>
        rw [hwx] at hp1
        rw [hwy] at hq1
        simp only [eff_act, hwx, hwy]
        cases bx
        · simp only at hp1
          cases hp1
          exact ⟨q.2, hq1, rfl⟩
        · cases bvy
          · simp only at hq1
            cases hq1
            exact ⟨s.H, rfl, hp1⟩
          · exact act_swap hp hck hN hj hp1 hq1
  obtain ⟨H1', k1, k2⟩ := key
  refine ⟨⟨put s.τ y.2.dst q.1, H1'⟩, by rw [dins_eff, k1]; rfl, ?_⟩
  rw [dins_eff]
  have hx : eff call N x (put s.τ y.2.dst q.1) H1' = eff call N x s.τ H1' := eff_congr fun t ht => put_other fun e => a2 t e ht
  simp only [hx, k2, Option.map_some]
  congr 2
  exact put_comm fun d hd he => (a1 d he).2 hd

/-! ### One is taken from the middle -/
def chkT : Chk → List Nat
  | .ne x y => x.tmps ++ y.tmps
  | .nh x _ | .lt x => x.tmps
theorem chk_congr {c : Chk} (h : ∀ t ∈ chkT c, τ t = τ' t) : Chk.ok N nh τ c = Chk.ok N nh τ' c := by
  cases c with
  | ne x y =>
    have h1 : ev τ x = ev τ' x := ev_congr fun t ht => h t (by simp [chkT, ht])
    have h2 : ev τ y = ev τ' y := ev_congr fun t ht => h t (by simp [chkT, ht])
    simp only [Chk.ok, h1, h2]
  | nh x j =>
    have h1 : ev τ x = ev τ' x := ev_congr fun t ht => h t (by simpa [chkT] using ht)
    simp only [Chk.ok, h1]
  | lt x =>
    have h1 : ev τ x = ev τ' x := ev_congr fun t ht => h t (by simpa [chkT] using ht)
    simp only [Chk.ok, h1]

theorem cl_tmps {i : I} : (∀ x, i.cl = .load x → ∀ t ∈ x.tmps, t ∈ i.tmps) ∧ (∀ x, i.cl = .store x → ∀ t ∈ x.tmps, t ∈ i.tmps) ∧ (∀ x y, i.cl = .app x y → (∀ t ∈ x.tmps, t ∈ i.tmps) ∧ ∀ t ∈ y.tmps, t ∈ i.tmps) := by
  cases i <;> simp [I.cl, I.tmps] <;> (try (constructor)) <;> intros <;> simp_all
theorem kd_tmps {d : DM × Ins} : (∀ x, kd d = .load x → ∀ t ∈ x.tmps, t ∈ d.2.reads) ∧ (∀ x, kd d = .store x → ∀ t ∈ x.tmps, t ∈ d.2.reads) ∧ (∀ x y, kd d = .app x y → (∀ t ∈ x.tmps, t ∈ d.2.reads) ∧ ∀ t ∈ y.tmps, t ∈ d.2.reads) := by
  obtain ⟨m, dst, i, g⟩ := d
  obtain ⟨c1, c2, c3⟩ := @cl_tmps i
  have hr : ∀ t, t ∈ i.tmps → t ∈ (⟨dst, i, g⟩ : Ins).reads := fun t ht => by unfold Ins.reads; exact List.mem_append_right _ ht
  unfold kd
  refine ⟨fun x h => ?_, fun x h => ?_, fun x y h => ?_⟩
  · cases m <;> cases hc : i.cl <;> simp [hc] at h
    subst h; exact fun t ht => hr t (c1 _ hc t ht)
  · cases m <;> cases hc : i.cl <;> simp [hc] at h
    subst h; exact fun t ht => hr t (c2 _ hc t ht)
  · cases m <;> cases hc : i.cl <;> simp [hc] at h
    obtain ⟨rfl, rfl⟩ := h
    exact ⟨fun t ht => hr t ((c3 _ _ hc).1 t ht), fun t ht => hr t ((c3 _ _ hc).2 t ht)⟩

theorem pairK_tmps {x y : DM × Ins} {sm : Bool} {cks : List Chk} (h : pairK (kd x) (kd y) sm = some cks) : ∀ c ∈ cks, (kd x).isPure = false ∧ (kd y).isPure = false ∧ ∀ t ∈ chkT c, t ∈ x.2.reads ∨ t ∈ y.2.reads := by
  obtain ⟨x1, x2, x3⟩ := @kd_tmps x
  obtain ⟨y1, y2, y3⟩ := @kd_tmps y
  intro c hc
  cases hx : kd x <;> cases hy : kd y <;> simp only [hx, hy, pairK] at h <;> (try (cases h; done)) <;> (try (cases h; cases hc; done)) <;> (try (split at h <;> cases h; cases hc; done)) <;>
    (try (split at h <;> cases h <;> cases hc; done)) <;> refine ⟨rfl, rfl, fun t ht => ?_⟩ <;> cases h <;> simp only [List.mem_cons, List.not_mem_nil, or_false] at hc
  all_goals
    first
    | (rcases hc with rfl | rfl <;> simp only [chkT, List.mem_append] at ht)
    | (subst hc; simp only [chkT, List.mem_append] at ht)
  case load.hole => exact .inl (x1 _ hx _ ht)
  case load.store => exact ht.imp (x1 _ hx _) (y2 _ hy _)
  case load.app => exact ht.imp (x1 _ hx _) ((y3 _ _ hy).1 _)
  case hole.load => exact .inr (y1 _ hy _ ht)
  case hole.store => exact .inr (y2 _ hy _ ht)
  case app.load.refl.inl => exact ht.imp ((x3 _ _ hx).1 _) (y1 _ hy _)
  case app.load.refl.inr => exact .inr (y1 _ hy _ ht)
  case app.hole.refl.inl => exact .inl ((x3 _ _ hx).1 _ ht)
  case app.hole.refl.inr => exact .inl ((x3 _ _ hx).2 _ ht)
  case pc.load.refl => exact .inr (y1 _ hy _ ht)

/-- z writes nothing that x looks at (or x looks at no memory). -/
def NW (x z : DM × Ins) : Prop := (kd x).isPure = true ∨ ∀ d, z.2.dst = some d → d ∉ x.2.reads
def Swaps (N nh : Nat) (τ : Nat → V) (x y : DM × Ins) : Prop := x.2.apart y.2 = true ∧ ∃ cks, pairK (kd x) (kd y) (sameZero x.2.i y.2.i) = some cks ∧ ∀ c ∈ cks, Chk.ok N nh τ c = true

theorem bubble (hc : GrowC call) {y : DM × Ins} {post : List (DM × Ins)} {sf : St} (hj : ∀ j, kd y = .hole j → j < nh) : ∀ (pre : List (DM × Ins)) (s : St), (∀ x ∈ pre, Swaps N nh sf.τ x y) →
    (pre ++ y :: post).Pairwise NW → (∀ x ∈ pre ++ y :: post, NW x x) → N + nh ≤ s.H.length → dinsL call N (pre ++ y :: post) s = some sf →
    ∃ s', dins call N y s = some s' ∧ dinsL call N (pre ++ post) s' = some sf
  | [], s, _, _, _, _, h => by
    simp only [List.nil_append, dinsL, Option.bind_eq_some_iff] at h
    exact h
  | x :: pre, s, hs, hp, hself, hN, h => by
    have hall := h
    simp only [List.cons_append, dinsL, Option.bind_eq_some_iff] at h
    obtain ⟨s1, h1, h2⟩ := h
    rw [List.cons_append, List.pairwise_cons] at hp
    obtain ⟨hx, hp'⟩ := hp
    have hN1 : N + nh ≤ s1.H.length := Nat.le_trans hN (dins_grow hc h1).1
    obtain ⟨s2, h3, h4⟩ := bubble hc hj pre s1 (fun z hz => hs z (by simp [hz])) hp' (fun z hz => hself z (by simp only [List.cons_append, List.mem_cons]; exact .inr hz)) hN1 h2
    obtain ⟨hap, cks, hk, hck⟩ := hs x (by simp)
    have hck' : ∀ c ∈ cks, Chk.ok N nh s.τ c = true := fun c hcm => by
      obtain ⟨p1, p2, p3⟩ := pairK_tmps hk c hcm
      rw [← hck c hcm]
      refine chk_congr fun t ht => (dinsL_slot hall fun d hd e => ?_).symm
      rcases p3 t ht with hr | hr
      · -- x looks at t
        have : NW x d := by
          simp only [List.cons_append, List.mem_cons] at hd
          rcases hd with rfl | hd
          · exact hself _ (by simp)
          · exact hx d hd
        rcases this with h | h
        · rw [p1] at h; cases h
        · exact h t e hr
      · have : NW y d ∨ d.2.apart y.2 = true := by
          simp only [List.cons_append, List.mem_cons, List.mem_append] at hd
          rcases hd with rfl | hd | rfl | hd
          · exact .inr hap
          · exact .inr (hs d (by simp [hd])).1
          · exact .inl (hself _ (by simp))
          · rw [List.pairwise_append] at hp'
            exact .inl ((List.pairwise_cons.1 hp'.2.1).1 d hd)
        rcases this with (h | h) | h
        · rw [p2] at h; cases h
        · exact h t e hr
        · exact ((apart_inv h).1 t e).1 hr
    obtain ⟨s1', h5, h6⟩ := dins_swap hap hk hck' hN hj h1 h3
    refine ⟨s1', h5, ?_⟩
    simp only [List.cons_append, dinsL, Option.bind_eq_some_iff]
    exact ⟨s2, h6, h4⟩
end Go.Ar
