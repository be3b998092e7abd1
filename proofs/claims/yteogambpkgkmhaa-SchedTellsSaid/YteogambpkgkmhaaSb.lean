/- The script's steps. -/
import Derived.Test.YteogambpkgkmhaaSa
set_option linter.unusedSimpArgs false
set_option linter.unusedVariables false
namespace Go.Proofs.Yteogambpkgkmhaa
open Go Go.Ar
set_option maxRecDepth 100000

/-- A script, as it lies: its block q, the block kt of who was told; its picks. -/
structure Sc (H : Heap) (q kt : Nat) (p : V) (picks : List Int) (last : Int) (told : List Bool) (ended : Int) : Prop where
  hq : H[q]? = some (.cells [p, .int .i64 last, .sl kt 0 told.length told.length, .int .i64 ended] .ex)
  ht : H[kt]? = some (.cells (told.map .bool) .ex)
  hp : IL .i64 H p picks
  hg : picks ≠ [] → SlG H 1 p
  ne : q ≠ kt
  pos : 0 < told.length
  pq : ∀ k, p.blk? = some k → k ≠ q ∧ k ≠ kt
  plt : ∀ k, p.blk? = some k → k < H.length
namespace Sc
variable {H : Heap} {q kt : Nat} {p : V} {picks : List Int} {last : Int} {told : List Bool} {ended : Int}
theorem r0 (h : Sc H q kt p picks last told ended) : rd H q 0 = some p := by simp [rd, h.hq]
theorem r1 (h : Sc H q kt p picks last told ended) : rd H q 1 = some (.int .i64 last) := by simp [rd, h.hq]
theorem r2 (h : Sc H q kt p picks last told ended) : rd H q 2 = some (.sl kt 0 told.length told.length) := by simp [rd, h.hq]
theorem r3 (h : Sc H q kt p picks last told ended) : rd H q 3 = some (.int .i64 ended) := by simp [rd, h.hq]
theorem bl (h : Sc H q kt p picks last told ended) : BL H (.sl kt 0 told.length told.length) told := by
  refine ⟨rfl, ?_⟩
  simp only [cellsOf, rdn, h.ht]
  rw [if_pos (by simp)]
  simp only [List.drop_zero, Nat.mul_one]
  rw [List.take_of_length_le (by simp)]
end Sc

def allDone (told done : List Bool) : Bool := (List.range told.length).all fun i => told.getD i false || done.getD i false

/-- The loop that looks whether somebody is still to be told. -/
theorem tell_loop {H : Heap} {t d : V} {told done : List Bool} (ht : BL H t told) (hd : BL H d done) {q : Nat} :
    ∀ (τ : Nat → V) (i : Nat), i ≤ told.length → τ 0 = .ptr q 0 → τ 2 = d → τ 35 = t → τ 36 = .int .i64 told.length → τ 37 = .int .i64 i → (∀ j, j < i → (told.getD j false || done.getD j false) = true) → (told.length : Int) ≤ 2 ^ 40 →
      WP E (.loop (.seq (.reg [⟨some 38, .bin .lss (.t 37) (.t 36), none⟩]) (.seq (.cond (.t 38) .skip (.exit 0)) (.seq (.block 1 (.seq (.reg [⟨some 39, .mv (.t 37), none⟩, ⟨some 40, .iadr 1 (.t 35) (.t 37), none⟩, ⟨some 41, .load 1 false (.t 40), none⟩, ⟨some 6, .mv (.t 39), none⟩, ⟨some 7, .mv (.t 41), none⟩])
        (.seq (.reg [⟨some 42, .mv (.t 7), none⟩, ⟨some 43, .not (.t 42), none⟩, ⟨some 44, .mv (.t 43), none⟩, ⟨some 45, .mv (.t 2), some (44, true)⟩, ⟨some 46, .mv (.t 6), some (44, true)⟩, ⟨some 47, .call (.c (.fn 19 [] [])) [.t 45, .t 46], some (44, true)⟩, ⟨some 48, .not (.t 47), some (44, true)⟩, ⟨some 49, .pick (.t 44) (.t 48) (.c (.bool false)), none⟩])
          (.cond (.t 49) .ret .skip)))) (.reg [⟨some 50, .bin .add (.t 37) (.c (.int .i64 1)), none⟩, ⟨some 37, .mv (.t 50), none⟩])))))
        ⟨τ, H⟩ fun e s => s.H = H ∧ s.τ 0 = .ptr q 0 ∧ ((e = .ret ∧ allDone told done = false) ∨ (e = .exit 0 ∧ allDone told done = true)) := by
  intro τ i hi h0 h2 h35 h36 h37 hall hsz
  refine wa_loop (fun m s => s.H = H ∧ ∃ i, m = told.length - i ∧ i ≤ told.length ∧ s.τ 0 = .ptr q 0 ∧ s.τ 2 = d ∧ s.τ 35 = t ∧ s.τ 36 = .int .i64 told.length ∧ s.τ 37 = .int .i64 i ∧ ∀ j, j < i → (told.getD j false || done.getD j false) = true) ?_ (told.length - i) ⟨τ, H⟩ ⟨rfl, i, rfl, hi, h0, h2, h35, h36, h37, hall⟩
  rintro m ⟨τ, H1⟩ ⟨hH, i, hm, hi, h0, h2, h35, h36, h37, hall⟩
  simp only at hH h0 h2 h35 h36 h37
  subst hH
  by_cases hlt : i < told.length
  · obtain ⟨k, o, c, rfl, h3⟩ := ht.at hlt
    have hdn := isDone_ok hd i
    have hw : IntKind.i64.wrap ((i : Int) + 1) = ((i + 1 : Nat) : Int) := by simp [IntKind.wrap, IntKind.bits, IntKind.signed]; omega
    generalize hb1 : told.getD i false = b1 at h3
    generalize hb2 : done.getD i false = b2 at hdn
    refine wa_seq (wa_regs ⟨_, by simp [h36, h37]; rfl, ?_⟩)
    refine wa_seq (wa_cond (t := true) (by simp [hlt]) (fun _ => wa_skip ?_) (fun h => by cases h))
    refine wa_seq (wa_block (wa_seq (wa_regs ⟨_, by simp [h35, h37, hlt, h3]; rfl, ?_⟩)))
    have hnext : (b1 || b2) = true → ∀ j, j < i + 1 → (told.getD j false || done.getD j false) = true := fun hb j hj => by
      by_cases e : j = i
      · subst e; rw [hb1, hb2]; exact hb
      · exact hall j (by omega)
    cases b1
    · cases b2
      · refine wa_seq (wa_regs ⟨_, by simp [h2, hdn, h37]; rfl, ?_⟩)
        refine wa_cond (t := true) (by simp) (fun _ => wa_ret ?_) (fun h => by cases h)
        refine ⟨rfl, by simp [h0], .inl ⟨rfl, ?_⟩⟩
        unfold allDone
        rw [List.all_eq_false]
        exact ⟨i, by simpa using hlt, by rw [hb1, hb2]; simp⟩
      · refine wa_seq (wa_regs ⟨_, by simp [h2, hdn, h37]; rfl, ?_⟩)
        refine wa_cond (t := false) (by simp) (fun h => by cases h) (fun _ => wa_skip ?_)
        refine wa_regs ⟨_, by simp [h37]; rfl, ?_⟩
        exact ⟨told.length - (i + 1), by omega, rfl, i + 1, rfl, by omega, by simp [h0], by simp [h2], by simp [h35], by simp [h36], by simp [hw], hnext rfl⟩
    · refine wa_seq (wa_regs ⟨_, by simp [h2, h37]; rfl, ?_⟩)
      refine wa_cond (t := false) (by simp) (fun h => by cases h) (fun _ => wa_skip ?_)
      refine wa_regs ⟨_, by simp [h37]; rfl, ?_⟩
      exact ⟨told.length - (i + 1), by omega, rfl, i + 1, rfl, by omega, by simp [h0], by simp [h2], by simp [h35], by simp [h36], by simp [hw], hnext rfl⟩
  · have hie : i = told.length := by omega
    subst hie
    refine wa_seq (wa_regs ⟨_, by simp [h36, h37]; rfl, ?_⟩)
    refine wa_seq (wa_cond (t := false) (by simp) (fun h => by cases h) (fun _ => wa_exit ?_))
    refine ⟨rfl, by simp [h0], .inr ⟨rfl, ?_⟩⟩
    unfold allDone
    rw [List.all_eq_true]
    intro j hj
    exact hall j (by simpa using hj)

theorem Sc.setQ {H : Heap} {q kt : Nat} {p p' : V} {picks picks' : List Int} {last last' : Int} {told : List Bool} {ended ended' : Int} (h : Sc H q kt p picks last told ended) (hp : IL .i64 H p' picks') (hg : picks' ≠ [] → SlG H 1 p') (hb : ∀ k, p'.blk? = some k → p.blk? = some k) :
    Sc (H.set q (.cells [p', .int .i64 last', .sl kt 0 told.length told.length, .int .i64 ended'] .ex)) q kt p' picks' last' told ended' := by
  have hlt : q < H.length := (List.getElem?_eq_some_iff.1 h.hq).1
  have hfr : ∀ k, p'.blk? = some k → (H.set q (.cells [p', .int .i64 last', .sl kt 0 told.length told.length, .int .i64 ended'] .ex))[k]? = H[k]? := fun k hk => by
    rw [List.getElem?_set_ne]; exact fun e => (h.pq k (hb k hk)).1 e.symm
  exact ⟨by simp [hlt], by rw [List.getElem?_set_ne h.ne]; exact h.ht, hp.frame hfr, fun hn => (hg hn).frame hfr, h.ne, h.pos, fun k hk => h.pq k (hb k hk), fun k hk => by simpa using h.plt k (hb k hk)⟩

theorem Sc.setT {H : Heap} {q kt : Nat} {p : V} {picks : List Int} {last : Int} {told told' : List Bool} {ended : Int} (h : Sc H q kt p picks last told ended) (hl : told'.length = told.length) :
    Sc (H.set kt (.cells (told'.map .bool) .ex)) q kt p picks last told' ended := by
  have hlt : kt < H.length := (List.getElem?_eq_some_iff.1 h.ht).1
  have hfr : ∀ k, p.blk? = some k → (H.set kt (.cells (told'.map .bool) .ex))[k]? = H[k]? := fun k hk => by
    rw [List.getElem?_set_ne]; exact fun e => (h.pq k hk).2 e.symm
  exact ⟨by rw [List.getElem?_set_ne h.ne.symm, hl]; exact h.hq, by simp [hlt], h.hp.frame hfr, fun hn => (h.hg hn).frame hfr, h.ne, by rw [hl]; exact h.pos, h.pq, fun k hk => by simpa using h.plt k hk⟩

/-- Nothing turned but the script's two blocks. -/
def Kept (q kt : Nat) (H H' : Heap) : Prop := H'.length = H.length ∧ ∀ k, k ≠ q → k ≠ kt → H'[k]? = H[k]?
theorem Kept.refl (q kt : Nat) (H : Heap) : Kept q kt H H := ⟨rfl, fun _ _ _ => rfl⟩
theorem Kept.trans {q kt : Nat} {H H' H'' : Heap} (h : Kept q kt H H') (h' : Kept q kt H' H'') : Kept q kt H H'' := ⟨h'.1.trans h.1, fun k a b => (h'.2 k a b).trans (h.2 k a b)⟩
theorem Kept.q (q kt : Nat) (H : Heap) (b : Blk) : Kept q kt H (H.set q b) := ⟨by simp, fun k a _ => by rw [List.getElem?_set_ne]; exact fun e => a e.symm⟩
theorem Kept.t (q kt : Nat) (H : Heap) (b : Blk) : Kept q kt H (H.set kt b) := ⟨by simp, fun k _ a => by rw [List.getElem?_set_ne]; exact fun e => a e.symm⟩

def toldOf (told done : List Bool) (w : Nat) : List Bool := if allDone (told.set w true) done then List.replicate told.length false else told.set w true
def endedOf (told done : List Bool) (w : Nat) (ended : Int) : Int := if allDone (told.set w true) done then IntKind.i64.wrap (ended + 1) else ended

theorem tell_ok {H : Heap} {q kt : Nat} {p d : V} {picks : List Int} {last : Int} {told done : List Bool} {ended : Int} (h : Sc H q kt p picks last told ended) (hd : BL H d done) (hdq : ∀ k, d.blk? = some k → k ≠ q ∧ k ≠ kt)
    (w : Nat) (hw : w < told.length) (hsz : (told.length : Int) ≤ 2 ^ 40) :
    ∃ v H', callL E (.f 20) [.ptr q 0, .int .i64 w, d] H = some (v, H') ∧ v = .tup [] ∧ Kept q kt H H' ∧ ∃ p', (∀ k, p'.blk? = some k → p.blk? = some k) ∧ Sc H' q kt p' picks.tail w (toldOf told done w) (endedOf told done w ended) := by
  rw [call_E rfl fc20_ok rfl]
  refine wa_finish ?_
  unfold fc20
  dsimp only
  refine wa_seq (WP.mono (Q := fun e s => e = .normal ∧ Kept q kt H s.H ∧ s.τ 0 = .ptr q 0 ∧ s.τ 1 = .int .i64 w ∧ s.τ 2 = d ∧ ∃ p', (∀ k, p'.blk? = some k → p.blk? = some k) ∧ Sc s.H q kt p' picks.tail last told ended) ?_ ?_)
  · -- a pick is used up
    have r0 := h.r0
    have hl := h.hp.len
    refine wa_seq (wa_regs ⟨_, by simp [r0, hl]; rfl, ?_⟩)
    cases picks with
    | nil =>
      refine wa_cond (t := false) (by simp) (fun h => by cases h) (fun _ => wa_skip ?_)
      exact ⟨rfl, Kept.refl _ _ _, by simp, by simp, by simp, p, fun _ hk => hk, h⟩
    | cons z zs =>
      obtain ⟨p', hs, hp', hg', hb'⟩ := h.hp.tail (h.hg (by simp))
      refine wa_cond (t := true) (by simp) (fun _ => ?_) (fun h => by cases h)
      have hwr := wr1 (o := 0) (v := p') h.hq rfl (by simp) (len_scalar hp'.len)
      refine wa_regs ⟨_, by simp [r0, hs, Rw.one hp', hwr]; rfl, ?_⟩
      exact ⟨rfl, Kept.q _ _ _ _, by simp, by simp, by simp, p', hb', h.setQ hp' (fun _ => hg') hb'⟩
  · rintro e ⟨τ, H1⟩ ⟨rfl, hk1, t0, t1, t2, p', hpb, h1⟩
    simp only at hk1 t0 t1 t2 h1
    simp only [After]
    have r2 := h1.r2
    have hwr1 : wr H1 q 1 [.int .i64 w] = some (H1.set q (.cells [p', .int .i64 w, .sl kt 0 told.length told.length, .int .i64 ended] .ex)) := wr1 (o := 1) (v := .int .i64 w) h1.hq rfl (by simp) rfl
    have h2 := h1.setQ (last' := w) (ended' := ended) h1.hp h1.hg (fun _ h => h)
    have hka : Kept q kt H (H1.set q (.cells [p', .int .i64 w, .sl kt 0 told.length told.length, .int .i64 ended] .ex)) := hk1.trans (Kept.q _ _ _ _)
    generalize H1.set q (.cells [p', .int .i64 w, .sl kt 0 told.length told.length, .int .i64 ended] .ex) = Ha at hwr1 h2 hka
    have hset : (told.map V.bool).set w (.bool true) = (told.set w true).map .bool := by rw [List.map_set]
    have hwr2 : wr Ha kt w [.bool true] = some (Ha.set kt (.cells ((told.set w true).map .bool) .ex)) := by rw [← hset]; exact wr1 (o := w) (v := .bool true) h2.ht rfl (by simpa using hw) rfl
    have h3 := h2.setT (told' := told.set w true) (by simp)
    have hk3 : Kept q kt H (Ha.set kt (.cells ((told.set w true).map .bool) .ex)) := hka.trans (Kept.t _ _ _ _)
    generalize Ha.set kt (.cells ((told.set w true).map .bool) .ex) = H3 at hwr2 h3 hk3
    refine wa_seq (wa_regs ⟨_, by simp [t0, t1, r2, hw, hwr1, hwr2]; rfl, ?_⟩)
    have r2' := h3.r2
    have hbl := h3.bl
    have hlen : (told.set w true).length = told.length := by simp
    have hd3 : BL H3 d done := hd.frame fun k hk => hk3.2 k (hdq k hk).1 (hdq k hk).2
    refine wa_seq (wa_seq (wa_regs ⟨_, by simp [t0, r2']; rfl, ?_⟩))
    refine wa_block (WP.mono (tell_loop hbl hd3 (q := q) _ 0 (by omega) (by simp [t0]) (by simp [t2]) (by simp) (by simp) (by simp) (fun j hj => by omega) (by rw [hlen]; exact hsz)) ?_)
    rintro e ⟨τ2, H4⟩ ⟨hH4, u0, he⟩
    simp only at hH4 u0
    subst hH4
    rcases he with ⟨rfl, hall⟩ | ⟨rfl, hall⟩
    · refine ⟨by simp, _, rfl, rfl, hk3, p', hpb, ?_⟩
      simp only [toldOf, endedOf, hall]
      exact h3
    · simp only [InBlk, if_true, After]
      have s3 := h3.r3
      have hwr3 : wr H4 q 3 [.int .i64 (IntKind.i64.wrap (ended + 1))] = some (H4.set q (.cells [p', .int .i64 w, .sl kt 0 (told.set w true).length (told.set w true).length, .int .i64 (IntKind.i64.wrap (ended + 1))] .ex)) := wr1 (o := 3) (v := .int .i64 (IntKind.i64.wrap (ended + 1))) h3.hq rfl (by simp) rfl
      have h5 := h3.setQ (last' := w) (ended' := IntKind.i64.wrap (ended + 1)) h3.hp h3.hg (fun _ h => h)
      have hk5 : Kept q kt H (H4.set q (.cells [p', .int .i64 w, .sl kt 0 (told.set w true).length (told.set w true).length, .int .i64 (IntKind.i64.wrap (ended + 1))] .ex)) := hk3.trans (Kept.q _ _ _ _)
      generalize H4.set q (.cells [p', .int .i64 w, .sl kt 0 (told.set w true).length (told.set w true).length, .int .i64 (IntKind.i64.wrap (ended + 1))] .ex) = H5 at hwr3 h5 hk5
      have s2 := h5.r2
      rw [hlen] at s2
      have hne : told ≠ [] := by intro e; subst e; simp at hw
      have hrep : List.replicate told.length (V.bool false) = (List.replicate told.length false).map V.bool := by simp
      have hwr4 : wr H5 kt 0 (List.replicate told.length (V.bool false)) = some (H5.set kt (.cells ((List.replicate told.length false).map .bool) .ex)) := by
        rw [hrep]
        exact wrAll h5.ht rfl (by simp) (by simp [V.scalar])
      have h6 := h5.setT (told' := List.replicate told.length false) (by simp)
      have hk6 : Kept q kt H (H5.set kt (.cells ((List.replicate told.length false).map .bool) .ex)) := hk5.trans (Kept.t _ _ _ _)
      generalize H5.set kt (.cells ((List.replicate told.length false).map .bool) .ex) = H6 at hwr4 h6 hk6
      refine wa_seq (wa_regs ⟨_, by simp [u0, s3, hwr3]; rfl, ?_⟩)
      refine wa_regs ⟨_, by simp [u0, s2, hne, flatRep, hwr4]; rfl, ?_⟩
      refine ⟨by simp, _, rfl, rfl, hk6, p', hpb, ?_⟩
      simp only [toldOf, endedOf, hall, if_true]
      exact h6
end Go.Proofs.Yteogambpkgkmhaa
