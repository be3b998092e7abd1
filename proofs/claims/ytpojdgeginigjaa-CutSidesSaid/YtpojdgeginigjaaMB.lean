/- The abstract memory grows, and what is laid anew is one's own; what is asked of calls; one instruction, carried out by the machine. -/
import Derived.Test.YtpojdgeginigjaaMA
import Derived.OrdersIn
import Derived.RangeFuncRecord
import Derived.Shelf.Abstract
import Derived.LoopNIn
set_option linter.unusedSimpArgs false
set_option linter.unusedVariables false
namespace Go.Ar
open Go.RowKit

/-! ### Growth -/
/-- Every live block from n on is one's own. -/
def Own (n : Nat) (H : Heap) : Prop := ∀ (k : Nat) (b : Blk), n ≤ k → H[k]? = some b → b.live = true → b.own = true
def Grow (H H' : Heap) : Prop := H.length ≤ H'.length ∧ ∀ n, n ≤ H.length → Own n H → Own n H'
def GrowC (call : CallF) : Prop := ∀ (t : Tgt) (args : List V) (H : Heap) (v : V) (H' : Heap), call t args H = some (v, H') → Grow H H'

theorem Grow.refl (H : Heap) : Grow H H := ⟨Nat.le_refl _, fun _ _ h => h⟩
theorem Grow.trans {H H' H'' : Heap} (h : Grow H H') (h' : Grow H' H'') : Grow H H'' := ⟨Nat.le_trans h.1 h'.1, fun n hn ho => h'.2 n (Nat.le_trans hn h.1) (h.2 n hn ho)⟩
theorem Grow.push (H : Heap) {b : Blk} (hb : b.live = true → b.own = true) : Grow H (H ++ [b]) := by
  refine ⟨by simp, fun n hn ho k c hk hc hl => ?_⟩
  by_cases hlt : k < H.length
  · rw [List.getElem?_append_left hlt] at hc; exact ho k c hk hc hl
  · rw [List.getElem?_append_right (by omega)] at hc
    cases hd : k - H.length with
    | zero => rw [hd] at hc; simp at hc; subst hc; exact hb hl
    | succ i => rw [hd] at hc; simp at hc
theorem Grow.set (H : Heap) (k : Nat) {b : Blk} (hb : b.live = true → b.own = true) : Grow H (H.set k b) := by
  refine ⟨by simp, fun n hn ho j c hj hc hl => ?_⟩
  rw [List.getElem?_set] at hc
  by_cases e : k = j
  · simp only [e, if_true] at hc
    split at hc
    · cases hc; exact hb hl
    · cases hc
  · rw [if_neg e] at hc; exact ho j c hj hc hl

theorem wr_grow {H H' : Heap} {k o : Nat} {vs : List V} (h : wr H k o vs = some H') : Grow H H' := by
  unfold wr at h
  split at h
  · rename_i cs m hk
    split at h
    · cases h
    · rename_i hm
      split at h
      · split at h
        · cases h; exact Grow.set H k (fun _ => by simpa [Blk.own] using hm)
        · cases h
      · cases h
  · cases h

theorem appendv_grow {H H' : Heap} {size bytes : Nat} {x y v : V} (h : appendv H size bytes x y = some (v, H')) : Grow H H' := by
  unfold appendv at h
  split at h
  · split at h
    · cases h
    · split at h
      · split at h
        · cases h; exact Grow.refl _
        · split at h
          · cases h; exact Grow.push _ (fun _ => rfl)
          · cases h
      · split at h
        · split at h
          · split at h
            · split at h
              · rename_i H1 hw; cases h; exact wr_grow hw
              · cases h
            · split at h
              · split at h
                · cases h; exact Grow.push _ (fun _ => rfl)
                · split at h
                  · cases h
                    exact (Grow.set _ _ (fun h => by simp [Blk.live] at h)).trans (Grow.push _ (fun _ => rfl))
                  · cases h
                · cases h
              · cases h
          · cases h
        · cases h
      · cases h
  · cases h

theorem mkslice_grow {H H' : Heap} {v : V} {n : Int} {zs : List V} {bytes : Nat}
    (h : (if 0 ≤ n ∧ n ≤ lim ∧ n * bytes ≤ 2 ^ 40 then some (V.sl H.length 0 n.toNat n.toNat, H ++ [.cells ((List.replicate n.toNat zs).flatten) .ex]) else none) = some (v, H')) : Grow H H' := by
  split at h
  · cases h; exact Grow.push _ (fun _ => rfl)
  · cases h

theorem aop_grow {call : CallF} (hc : GrowC call) {τ : Nat → V} {H H' : Heap} {i : I} {v : V} (h : aop call τ H i = some (v, H')) : Grow H H' := by
  cases i <;> simp only [aop] at h
  case append => exact appendv_grow h
  case mkslice =>
    split at h
    · exact mkslice_grow h
    · cases h
  case alloc => cases h; exact Grow.push _ (fun _ => rfl)
  case box =>
    split at h
    · split at h
      · cases h; exact Grow.push _ (fun _ => rfl)
      · cases h
    · cases h
  case bslice =>
    simp only [Option.map_eq_some_iff] at h
    obtain ⟨cs, _, h⟩ := h
    cases h; exact Grow.push _ (fun _ => rfl)
  case mkmap => cases h; exact Grow.push _ (fun _ => rfl)
  case store =>
    split at h
    · split at h
      · simp only [Option.map_eq_some_iff] at h
        obtain ⟨H1, hw, h⟩ := h
        cases h; exact wr_grow hw
      · cases h
    · cases h
  case copy =>
    split at h
    · split at h
      · split at h
        · simp only [Option.map_eq_some_iff] at h
          obtain ⟨H1, hw, h⟩ := h
          cases h; exact wr_grow hw
        · cases h; exact Grow.refl _
        · cases h
      · cases h
    · cases h
  case clear =>
    split at h
    · cases h; exact Grow.refl _
    · split at h
      · cases h; exact Grow.refl _
      · simp only [Option.map_eq_some_iff] at h
        obtain ⟨H1, hw, h⟩ := h
        cases h; exact wr_grow hw
    · cases h
  case mapupd =>
    split at h
    · split at h
      · split at h <;> first | (cases h; exact Grow.set _ _ (fun _ => rfl)) | cases h
      · cases h
    · cases h
  case mapent =>
    split at h
    · split at h
      · split at h <;> first | (cases h; exact Grow.set _ _ (fun _ => rfl)) | cases h
      · cases h
    · cases h
  case entst =>
    split at h
    · split at h
      · split at h
        · split at h
          · cases h; exact Grow.set _ _ (fun _ => rfl)
          · cases h
        · cases h
      · cases h
    · cases h
  case call =>
    split at h
    · exact hc _ _ _ _ _ h
    · exact hc _ _ _ _ _ h
    · cases h
  all_goals
    have e : H = H' := by
      repeat' split at h
      all_goals first
        | (cases h; rfl)
        | (cases h; done)
        | (simp only [Option.map_eq_some_iff] at h; obtain ⟨_, _, h⟩ := h; cases h; rfl)
    subst e; exact Grow.refl _

theorem ins_grow {call : CallF} (hc : GrowC call) {x : Ins} {s s' : St} (h : ins call x s = some s') : Grow s.H s'.H := by
  unfold ins at h
  split at h
  · simp only [Option.map_eq_some_iff] at h
    obtain ⟨p, hp, rfl⟩ := h
    exact aop_grow hc (v := p.1) (H' := p.2) hp
  · cases h; exact Grow.refl _
  · cases h
theorem insL_grow {call : CallF} (hc : GrowC call) : ∀ {l : List Ins} {s s' : St}, insL call l s = some s' → Grow s.H s'.H
  | [], _, _, h => by cases h; exact Grow.refl _
  | x :: xs, s, s', h => by
    simp only [insL, Option.bind_eq_some_iff] at h
    obtain ⟨s1, h1, h2⟩ := h
    exact (ins_grow hc h1).trans (insL_grow hc h2)

theorem getElem?_prot (hide : List Nat) (H : Heap) (k : Nat) : (prot hide H)[k]? = (H[k]?).map fun b => if k ∈ hide then .dead else ro1 b := by
  simp [prot]
theorem length_prot (hide : List Nat) (H : Heap) : (prot hide H).length = H.length := by simp [prot]

theorem pcall_of {call : CallF} {hide : List Nat} {t : Tgt} {args : List V} {H : Heap} {v : V} {H' : Heap} (h : pcall call hide t args H = some (v, H')) :
    ∃ Hp, call t args (prot hide H) = some (v, Hp) ∧ H' = H ++ Hp.drop H.length := by
  unfold pcall at h
  simp only [Option.map_eq_some_iff] at h
  obtain ⟨p, hp, h⟩ := h
  cases h
  exact ⟨p.2, hp, rfl⟩

theorem pcall_grow {call : CallF} (hc : GrowC call) (hide : List Nat) : GrowC (pcall call hide) := by
  intro t args H v H' h
  obtain ⟨Hp, hp, rfl⟩ := pcall_of h
  have hg := hc _ _ _ _ _ hp
  rw [Grow, length_prot] at hg
  have ho : Own H.length Hp := hg.2 _ (Nat.le_refl _) (fun k b hk hb _ => by
    rw [getElem?_prot, List.getElem?_eq_none (by omega)] at hb; cases hb)
  refine ⟨by simp, fun n hn hown k b hk hb hl => ?_⟩
  by_cases hlt : k < H.length
  · rw [List.getElem?_append_left hlt] at hb; exact hown k b hk hb hl
  · rw [List.getElem?_append_right (by omega), List.getElem?_drop] at hb
    exact ho _ b (by omega) hb hl

theorem dins_grow {call : CallF} (hc : GrowC call) {N : Nat} {d : DM × Ins} {s s' : St} (h : dins call N d s = some s') : Grow s.H s'.H := by
  unfold dins at h
  split at h
  · exact ins_grow hc h
  · exact ins_grow (pcall_grow hc _) h
  · split at h
    · split at h
      · rename_i b mk hb
        split at h
        · cases h
          refine Grow.set _ _ (fun _ => ?_)
          unfold newOf at hb
          split at hb
          · cases hb; rfl
          · split at hb
            · split at hb
              · cases hb; rfl
              · cases hb
            · cases hb
          · simp only [Option.map_eq_some_iff] at hb; obtain ⟨_, _, hb⟩ := hb; cases hb; rfl
          · split at hb
            · split at hb
              · cases hb; rfl
              · cases hb
            · cases hb
          · cases hb
        · cases h
      · cases h
    · cases h; exact Grow.refl _
    · cases h
theorem dinsL_grow {call : CallF} (hc : GrowC call) {N : Nat} : ∀ {l : List (DM × Ins)} {s s' : St}, dinsL call N l s = some s' → Grow s.H s'.H
  | [], _, _, h => by cases h; exact Grow.refl _
  | x :: xs, s, s', h => by
    simp only [dinsL, Option.bind_eq_some_iff] at h
    obtain ⟨s1, h1, h2⟩ := h
    exact (dins_grow hc h1).trans (dinsL_grow hc h2)

theorem Grow.dead (H : Heap) (n : Nat) : Grow H (H ++ List.replicate n .dead) := by
  refine ⟨by simp, fun m hm ho k b hk hb hl => ?_⟩
  by_cases hlt : k < H.length
  · rw [List.getElem?_append_left hlt] at hb; exact ho k b hk hb hl
  · rw [List.getElem?_append_right (by omega), List.getElem?_replicate] at hb
    split at hb
    · cases hb; simp [Blk.live] at hl
    · cases hb

theorem iter_grow {f : St → Out} (hf : ∀ s e s', f s = some (e, s') → Grow s.H s'.H) : ∀ (n : Nat) (s : St) (e : Ex) (s' : St), iter n f s = some (e, s') → Grow s.H s'.H
  | 0, _, _, _, h => by simp [iter] at h
  | n + 1, s, e, s', h => by
    rcases andThen_iff.1 h with ⟨s1, h1, h2⟩ | ⟨h1, _⟩
    · exact (hf _ _ _ h1).trans (iter_grow hf n _ _ _ h2)
    · exact hf _ _ _ h1

theorem exec_grow {call : CallF} (hc : GrowC call) (n : Nat) : ∀ (m : MC) (s : St) (e : Ex) (s' : St), exec call n m s = some (e, s') → Grow s.H s'.H := by
  intro m
  induction m with
  | skip => intro s e s' h; cases h; exact Grow.refl _
  | reg ops =>
    intro s e s' h
    simp only [exec, Option.map_eq_some_iff] at h
    obtain ⟨s1, h1, h⟩ := h
    cases h; exact insL_grow hc h1
  | dreg nh ops chk =>
    intro s e s' h
    simp only [exec] at h
    cases hd : dinsL call s.H.length ops ⟨s.τ, s.H ++ List.replicate nh .dead⟩ with
    | none => rw [hd] at h; simp [afterDraw] at h
    | some s1 =>
      rw [hd] at h
      simp only [afterDraw] at h
      split at h
      · cases h; exact (Grow.dead _ _).trans (dinsL_grow (s := ⟨s.τ, s.H ++ List.replicate nh .dead⟩) hc hd)
      · cases h
  | seq a b iha ihb =>
    intro s e s' h
    rcases andThen_iff.1 h with ⟨s1, h1, h2⟩ | ⟨h1, _⟩
    · exact (iha _ _ _ h1).trans (ihb _ _ _ h2)
    · exact iha _ _ _ h1
  | cond c a b iha ihb =>
    intro s e s' h
    simp only [exec] at h
    split at h
    · rename_i t _
      cases t
      · exact ihb _ _ _ h
      · exact iha _ _ _ h
    · cases h
  | block id a ih =>
    intro s e s' h
    simp only [exec] at h
    cases hr : exec call n a s with
    | none => rw [hr] at h; simp [unblk] at h
    | some x =>
      obtain ⟨e1, s1⟩ := x
      have := ih _ _ _ hr
      rw [hr] at h
      cases e1 <;> simp only [unblk] at h
      · cases h; exact this
      · split at h <;> (cases h; exact this)
      · cases h; exact this
  | loop a ih => intro s e s' h; exact iter_grow ih n _ _ _ h
  | exit id => intro s e s' h; cases h; exact Grow.refl _
  | ret => intro s e s' h; cases h; exact Grow.refl _
  | rangef f ps asg body _ _ =>
    intro s e s' h
    simp only [exec] at h
    split at h
    · rename_i t a b _
      cases hr : call t (a ++ [.yld s.H.length] ++ b) (s.H ++ [.lp s.τ ps asg body .ready]) with
      | none => rw [hr] at h; simp [afterRange] at h
      | some p =>
        obtain ⟨v, H'⟩ := p
        have h1 := (Grow.push s.H (b := .lp s.τ ps asg body .ready) (fun _ => rfl)).trans (hc _ _ _ _ _ hr)
        rw [hr] at h
        simp only [afterRange] at h
        split at h
        · cases h; exact h1.trans (Grow.set _ _ (fun h => by simp [Blk.live] at h))
        · cases h; exact h1.trans (Grow.set _ _ (fun h => by simp [Blk.live] at h))
        · cases h
    · cases h

theorem callN_grow {E : Env} (hE : ∀ g h args H v H', E.S g = some h → h args H = some (v, H') → Grow H H') : ∀ n, GrowC (callN E n)
  | 0 => fun t args H v H' h => by cases t <;> simp [callN] at h
  | n + 1 => fun t args H v H' h => by
    have ih := callN_grow hE n
    cases t with
    | f g =>
      simp only [callN] at h
      split at h
      · rename_i hh hs; exact hE _ _ _ _ _ _ hs h
      · split at h
        · rename_i fc _
          split at h
          · cases hr : exec (callN E n) n fc.body ⟨args0 args, H⟩ with
            | none => rw [hr] at h; simp [finish] at h
            | some x =>
              obtain ⟨e, s⟩ := x
              have := exec_grow ih n _ _ _ _ hr
              rw [hr] at h
              cases e <;> simp only [finish] at h <;> first | (cases h; done) | (simp only [Option.map_eq_some_iff] at h; obtain ⟨_, _, h⟩ := h; cases h; exact this)
          · cases h
        · cases h
    | y k =>
      simp only [callN] at h
      split at h
      · rename_i τ ps asg body hk
        split at h
        · obtain ⟨x, h1, h2⟩ := endRound_iff.1 h
          obtain ⟨e, s2⟩ := x
          obtain ⟨s, s1, h3, h4, h5⟩ := aBegin_iff.1 h1
          have g1 := exec_grow ih n _ _ _ _ h3
          have g2 := exec_grow ih n _ _ _ _ h5
          have g3 : Grow s.H s1.H := by
            unfold beginRound at h4
            split at h4
            · cases h4; exact Grow.set _ _ (fun _ => rfl)
            · cases h4
          have g4 : Grow s2.H H' := by
            simp only [endRound] at h2
            split at h2
            · cases h2; exact Grow.set _ _ (fun _ => rfl)
            · cases h2
          exact ((g1.trans g3).trans g2).trans g4
        · cases h
      · cases h

/-! ### Calls -/
abbrev FW (ro : Option Nat) : Fence := { fn := fun _ => True, depth := none, alive := false, round := ro }
theorem fw_room (ro : Option Nat) (n : Nat) : (FW ro).room n := fun _ h => by simp at h

/-- What a call comes to. -/
def CPost (P : Program) (B0 : Nat) (w0 : World) (D : List Nat) (ρ : Rho) (H : Heap) (v : V) (H' : Heap) : Ending → World → Prop := fun e w' =>
  ∃ v', e = .returned v' ∧ ∃ ρ', R ρ' v v' ∧ Agree H.length ρ ρ' ∧ Sim P B0 w0 ρ' H' D w'

structure CallOk (P : Program) (call : CallF) : Prop where
  f : ∀ {g : Nat} {args : List V} {H : Heap} {v : V} {H' : Heap}, call (.f g) args H = some (v, H') → Go.Proofs.Enters P g ∧
    ∀ {B0 : Nat} {w0 : World} {ρ : Rho} {D : List Nat} {w : World} {args' : Array Value}, D.Nodup → Sim P B0 w0 ρ H D w → RL ρ args args'.toList →
      ∀ (ro : Option Nat) (n : Nat), CallsIn (FW ro) n P g args' w (CPost P B0 w0 D ρ H v H')
  y : ∀ {k : Nat} {args : List V} {H : Heap} {v : V} {H' : Heap}, call (.y k) args H = some (v, H') →
    ∀ {B0 : Nat} {w0 : World} {ρ : Rho} {D : List Nat} {w : World} {args' : Array Value} {L : Loc}, D.Nodup → Sim P B0 w0 ρ H D w → RL ρ args args'.toList → ρ k = some L →
      ∃ (f : FuncId) (tmps : Array Value) (asg body : Code), (Instr.yield L.blk args').run P w = .ok (.round L.blk f tmps asg body) w ∧
        ∀ (ro : Option Nat) (n : Nat), RoundIn (FW ro) n P L.blk f tmps asg body w (CPost P B0 w0 D ρ H v H')
  grow : GrowC call

/-! ### A call with nothing to be written -/
variable {P : Program} {B0 : Nat} {w0 : World} {ρ : Rho} {H : Heap} {D : List Nat} {w : World}

theorem BlkOk.base {P : Program} {B0 B1 : Nat} {ρ : Rho} {L : Loc} {w : World} {b : Blk} (hb : BlkOk P B1 ρ L w b) (h : B0 ≤ B1) : BlkOk P B0 ρ L w b := by
  cases b with
  | dead => trivial
  | cells cs m =>
    obtain ⟨c, T, fr, h1, h2, h3⟩ := hb
    refine ⟨c, T, fr, h1, h2, ?_⟩
    cases m with
    | ro => exact h3
    | rg es => exact h3
    | ex => exact ⟨Nat.le_trans h h3.1, h3.2⟩
    | gr es => exact ⟨Nat.le_trans h h3.1, h3.2⟩
  | mp es => obtain ⟨en, cl, h1, h0, h2⟩ := hb; exact ⟨en, cl, h1, Nat.le_trans h h0, h2⟩
  | lp τ ps asg body st => obtain ⟨lo, nt, h1, h0, h2⟩ := hb; exact ⟨lo, nt, h1, Nat.le_trans h h0, h2⟩

theorem ro1_ok {L : Loc} {b : Blk} (hb : BlkOk P B0 ρ L w b) (B1 : Nat) : BlkOk P B1 ρ L w (ro1 b) := by
  cases b with
  | dead => trivial
  | mp es => trivial
  | lp τ ps asg body st => trivial
  | cells cs m =>
    obtain ⟨c, T, fr, h1, h2, h3⟩ := hb
    cases m with
    | ro => exact ⟨c, T, fr, h1, h2, h3⟩
    | rg es => exact ⟨c, T, fr, h1, h2, h3⟩
    | ex => exact ⟨c, T, fr, h1, h2, fun es sz => by rw [h3.2.2.2.1]; intro h; cases h⟩
    | gr es => exact ⟨c, T, fr, h1, h2, h3.2.2.2⟩
theorem ro1_own (b : Blk) : (ro1 b).own = false := by
  cases b with
  | cells cs m => cases m <;> rfl
  | _ => rfl
theorem ro1_live {b : Blk} (h : (ro1 b).live = true) : b.live = true := by
  cases b with
  | cells cs m => rfl
  | _ => simp [ro1, Blk.live] at h

theorem Sim.prot (hS : Sim P B0 w0 ρ H D w) (hide : List Nat) : Sim P w.heap.size w ρ (prot hide H) [] w := by
  have hget : ∀ k b, (Ar.prot hide H)[k]? = some b → b.live = true → ∃ c, H[k]? = some c ∧ b = ro1 c := fun k b hb hl => by
    rw [getElem?_prot] at hb
    simp only [Option.map_eq_some_iff] at hb
    obtain ⟨c, hc, e⟩ := hb
    refine ⟨c, hc, ?_⟩
    split at e
    · subst e; simp [Blk.live] at hl
    · exact e.symm
  refine ⟨fun k hk => hS.out k (by rwa [length_prot] at hk), Nat.le_refl _, Below.refl _ _, fun k b hb hl => ?_, fun k k' b b' L L' _ hb ho _ _ _ _ => ?_, fun r hr => by cases hr⟩
  · obtain ⟨c, hc, rfl⟩ := hget k b hb hl
    obtain ⟨L, h1, h2⟩ := hS.blk k c hc (ro1_live hl)
    exact ⟨L, h1, ro1_ok h2 _⟩
  · obtain ⟨c, hc, rfl⟩ := hget k b hb (Blk.own_live ho)
    rw [ro1_own] at ho; cases ho

theorem Sim.unprot (hS : Sim P B0 w0 ρ H D w) {ρ' : Rho} {Hp : Heap} {w' : World} (hlen : H.length ≤ Hp.length) (ho : Own H.length Hp) (ha : Agree H.length ρ ρ') (hP : Sim P w.heap.size w ρ' Hp [] w') :
    Sim P B0 w0 ρ' (H ++ Hp.drop H.length) D w' := by
  have hle := hS.le ha
  have hold : ∀ k b, k < H.length → (H ++ Hp.drop H.length)[k]? = some b → H[k]? = some b := fun k b hk hb => by rwa [List.getElem?_append_left hk] at hb
  have hnew : ∀ k b, H.length ≤ k → (H ++ Hp.drop H.length)[k]? = some b → Hp[k]? = some b := fun k b hk hb => by
    rw [List.getElem?_append_right hk, List.getElem?_drop] at hb
    rwa [show H.length + (k - H.length) = k by omega] at hb
  have hsz := hS.sizeLe
  have hheap : ∀ r, r < w.heap.size → w'.heap[r]? = w.heap[r]? := fun r hr => hP.low.block r hr
  refine ⟨fun k hk => hP.out k (by simp at hk; omega), hS.base, ?_, fun k b hb hl => ?_, fun k k' b b' L L' hkk hb hbo hb' hbl hL hL' => ?_, fun r hr => ?_⟩
  · exact ⟨hP.low.os.trans hS.low.os, hP.low.tape.trans hS.low.tape, hP.low.output.trans hS.low.output, Nat.le_trans hS.low.size hP.low.size, fun k hk => (hheap k (by omega)).trans (hS.low.block k hk)⟩
  · by_cases hk : k < H.length
    · obtain ⟨L, h1, h2⟩ := hS.blk k b (hold k b hk hb) hl
      exact ⟨L, hle _ _ h1, (h2.mono hle).heap (hheap _ (h2.lt hl))⟩
    · obtain ⟨L, h1, h2⟩ := hP.blk k b (hnew k b (by omega) hb) hl
      exact ⟨L, h1, h2.base hsz⟩
  · have hlo : ∀ j c M, j < H.length → (H ++ Hp.drop H.length)[j]? = some c → c.live = true → ρ' j = some M → M.blk < w.heap.size ∧ ρ j = some M := fun j c M hj hc hcl hM => by
      obtain ⟨L1, h1, h2⟩ := hS.blk j c (hold j c hj hc) hcl
      have := hle _ _ h1
      rw [hM] at this; cases this
      exact ⟨h2.lt hcl, h1⟩
    have hhi : ∀ j c M, H.length ≤ j → (H ++ Hp.drop H.length)[j]? = some c → c.live = true → ρ' j = some M → w.heap.size ≤ M.blk ∧ Hp[j]? = some c ∧ c.own = true := fun j c M hj hc hcl hM => by
      have hc' := hnew j c hj hc
      have hown := ho j c hj hc' hcl
      obtain ⟨L1, h1, h2⟩ := hP.blk j c hc' hcl
      rw [hM] at h1; cases h1
      exact ⟨h2.low hown, hc', hown⟩
    have hbl0 := Blk.own_live hbo
    by_cases hk : k < H.length <;> by_cases hk' : k' < H.length
    · obtain ⟨_, e1⟩ := hlo k b L hk hb hbl0 hL
      obtain ⟨_, e2⟩ := hlo k' b' L' hk' hb' hbl hL'
      exact hS.sep k k' b b' L L' hkk (hold k b hk hb) hbo (hold k' b' hk' hb') hbl e1 e2
    · have e1 := (hlo k b L hk hb hbl0 hL).1
      have e2 := (hhi k' b' L' (by omega) hb' hbl hL').1
      omega
    · have e1 := (hhi k b L (by omega) hb hbl0 hL).1
      have e2 := (hlo k' b' L' hk' hb' hbl hL').1
      omega
    · obtain ⟨_, e1, _⟩ := hhi k b L (by omega) hb hbl0 hL
      obtain ⟨_, e2, _⟩ := hhi k' b' L' (by omega) hb' hbl hL'
      exact hP.sep k k' b b' L L' hkk e1 hbo e2 hbl hL hL'
  · obtain ⟨h1, h2⟩ := hS.dfr r hr
    exact ⟨h1, (hheap r (Array.getElem?_eq_some_iff.1 h2).1).trans h2⟩

theorem CallOk.pcall {call : CallF} (h : CallOk P call) (hide : List Nat) : CallOk P (pcall call hide) := by
  have hpost : ∀ {t : Tgt} {args : List V} {H : Heap} {v : V} {Hp : Heap}, call t args (Ar.prot hide H) = some (v, Hp) →
      ∀ {B0 : Nat} {w0 : World} {ρ : Rho} {D : List Nat} {w : World}, Sim P B0 w0 ρ H D w → ∀ e w', CPost P w.heap.size w [] ρ (Ar.prot hide H) v Hp e w' → CPost P B0 w0 D ρ H v (H ++ Hp.drop H.length) e w' := by
    intro t args H v Hp hc B0 w0 ρ D w hS e w' hp
    obtain ⟨v', he, ρ', hR, ha, hP⟩ := hp
    have hg := h.grow _ _ _ _ _ hc
    rw [Grow, length_prot] at hg
    rw [length_prot] at ha
    refine ⟨v', he, ρ', hR, ha, hS.unprot hg.1 (hg.2 _ (Nat.le_refl _) fun k b hk hb _ => ?_) ha hP⟩
    rw [getElem?_prot, List.getElem?_eq_none (by omega)] at hb; cases hb
  constructor
  · intro g args H v H' hc
    obtain ⟨Hp, hp, rfl⟩ := pcall_of hc
    obtain ⟨h1, h2⟩ := h.f hp
    exact ⟨h1, fun hD hS hR ro n => (h2 List.nodup_nil (hS.prot hide) hR ro n).mono (hpost hp hS)⟩
  · intro k args H v H' hc B0 w0 ρ D w args' L hD hS hR hL
    obtain ⟨Hp, hp, rfl⟩ := pcall_of hc
    obtain ⟨f, tmps, asg, body, h1, h2⟩ := h.y hp List.nodup_nil (hS.prot hide) hR hL
    exact ⟨f, tmps, asg, body, h1, fun ro n => (h2 ro n).mono (hpost hp hS)⟩
  · exact pcall_grow h.grow hide
end Go.Ar
/- One instruction, a row of them, carried out by the machine. -/
set_option linter.unusedSimpArgs false
set_option linter.unusedVariables false
set_option linter.unnecessarySimpa false
namespace Go.Ar
open Go.RowKit

variable {P : Program} {B0 : Nat} {w0 : World} {ρ : Rho} {H : Heap} {D : List Nat} {w : World} {nt : Nat} {τ : Nat → V} {a : Act} {call : CallF}

theorem undef_bool (b : Bool) : (undef : Value) ≠ .bool b := by simp [undef]

theorem noCall_eq {i : I} {r : V × Heap} (h : aop call τ H (noCall i) = some r) : noCall i = i ∧ ∀ f args, i ≠ .call f args := by
  unfold noCall at h ⊢
  split at h
  · simp [aop] at h
  · rename_i hn
    exact ⟨rfl, hn⟩
theorem noNew_eq {i : I} {r : V × Heap} (h : aop call τ H (noNew i) = some r) : noNew i = i := by
  unfold noNew at h ⊢
  split at h <;> first | (simp [aop] at h; done) | rfl
theorem compOpC_cases (o : Oper) : (∃ (c : Call) (f0 : Operand), o.op = .call c ∧ c.callee = .value f0 ∧ compOpC P o = .call (cX f0) (c.args.toList.map cX)) ∨ (compOpC P o = noCall (compOp P o) ∧ newOp o = true) ∨ compOpC P o = noNew (noCall (compOp P o)) := by
  unfold compOpC
  split
  · rename_i c hc
    split
    · rename_i f hf; exact .inl ⟨c, f, hc, hf, rfl⟩
    · exact .inr (.inr rfl)
  · split
    · rename_i h; exact .inr (.inl ⟨rfl, h⟩)
    · exact .inr (.inr rfl)
theorem compOpC_plain {o : Oper} {r : V × Heap} (hc : compOpC P o = noCall (compOp P o) ∨ compOpC P o = noNew (noCall (compOp P o))) (h : aop call τ H (compOpC P o) = some r) :
    compOpC P o = compOp P o ∧ ∀ f args, compOp P o ≠ .call f args := by
  rcases hc with hc | hc
  · rw [hc] at h ⊢
    exact noCall_eq h
  · rw [hc] at h ⊢
    have e := noNew_eq h
    rw [e] at h ⊢
    exact noCall_eq h

theorem guard_ok {ops : Array Oper} {o : Oper} {g : Option (Nat × Bool)} (hg : compG ops.toList o = some g) (hτ : RT ρ nt τ a.tmps) {b : Bool} (h : wanted τ g = some b) :
    Region.wanted o (yielded ops a.tmps) = b := by
  unfold compG at hg
  unfold Region.wanted
  cases hgo : o.guard with
  | none => rw [hgo] at hg; cases hg; cases h; rfl
  | some p =>
    obtain ⟨j, c⟩ := p
    rw [hgo] at hg
    simp only at hg ⊢
    split at hg
    · rename_i q hq
      simp only [Option.map_eq_some_iff] at hg
      obtain ⟨d, hd, rfl⟩ := hg
      have hq' : ops[j]? = some q := by simpa using hq
      simp only [wanted] at h
      have hr := hτ.2 d
      unfold yielded
      simp only [hq', Option.bind_some, hd]
      have hget : a.tmps.getD d undef = (a.tmps[d]?).getD undef := by simp
      rw [hget] at hr
      generalize a.tmps[d]? = q1 at hr ⊢
      split at h
      · rename_i e he
        rw [he] at hr
        have hb := hr.bool_inv
        cases q1 with
        | none => exact absurd hb (undef_bool _)
        | some v => simp only [Option.getD_some] at hb; subst hb; cases h; cases e <;> cases c <;> rfl
      · rename_i he
        rw [he] at hr
        cases h
        generalize hv : q1.getD undef = v at hr
        cases hr with
        | undef _ hn =>
          split
          · exact absurd hv.symm (hn _)
          · rfl
      · cases h
    · cases hg

/-- Where the machine stands behind an operation. -/
def Kont (P : Program) (B0 : Nat) (w0 : World) (D : List Nat) (nt : Nat) (ρ : Rho) (n : Nat) (a : Act) (s' : St) (K : Act → World → Prop) : Prop :=
  ∀ (ρ' : Rho) (a' : Act) (w' : World), Agree n ρ ρ' → Sim P B0 w0 ρ' s'.H D w' → RT ρ' nt s'.τ a'.tmps → a'.defers = a.defers → K a' w'

theorem put_RT {ρ' : Rho} (hle : RLe ρ ρ') (hτ : RT ρ nt τ a.tmps) {dst : Option Nat} (hd : ∀ d, dst = some d → d < nt) {v : V} {v' : Value} (hv : R ρ' v v') : RT ρ' nt (put τ dst v) (a.put dst v').tmps := by
  cases dst with
  | none => exact hτ.mono hle
  | some d => exact (hτ.mono hle).set (hd d rfl) hv
theorem put_defers (a : Act) (dst : Option Nat) (v : Value) : (a.put dst v).defers = a.defers := by cases dst <;> rfl

theorem oper_ok (hC : CallOk P call) (o : Oper) (hD : D.Nodup) (hS : Sim P B0 w0 ρ H D w) (hτ : RT ρ nt τ a.tmps) (hd : ∀ d, o.dst = some d → d < nt) {r : V × Heap} (h : aop call τ H (compOpC P o) = some r)
    {K : Act → World → Prop} {Q : Exit → Act → World → Prop} {ro : Option Nat} {n : Nat} (hK : Kont P B0 w0 D nt ρ H.length a ⟨put τ o.dst r.1, r.2⟩ K) : o.wpIn (FW ro) n P a w K Q := by
  refine ⟨fun _ _ => trivial, ?_⟩
  rcases compOpC_cases (P := P) o with ⟨c, f0, hop, hcal, hc⟩ | hcall
  · rw [hc] at h
    obtain ⟨callee, xs0, ts⟩ := c
    simp only at hcal h
    subst hcal
    rw [Oper.semAt_eq _ _ _ (by intro c hh; rw [hop] at hh; cases hh)]
    have hargs := args_ok hτ xs0
    have hf := ev_ok hτ f0
    simp only [aop] at h
    unfold execOp
    rw [hop]
    simp only [resolve]
    split at h
    · -- a function
      rename_i g fi ca hev
      rw [hev] at hf
      generalize a.eval f0 = fv at hf
      cases hf with
      | @fn _ _ _ a' b' ha hb h1 h2 =>
      obtain ⟨hent, hcalls⟩ := hC.f h
      have hRL : RL ρ (fi ++ (xs0.toList.map cX).map (ev τ) ++ ca) (a' ++ xs0.map a.eval ++ b').toList := by
        have := (RL.append (RL.append (⟨ha, h1⟩ : RL ρ fi a'.toList) hargs) (⟨hb, h2⟩ : RL ρ ca b'.toList))
        simpa using this
      have hrun : ∀ (args : Array Value) (w : World), (callFunc g args).run P w = .ok (.enter g args) w := hent
      have hsem : ((do let d ← Deferred.ofValue (Value.func (.func g) a' b') (xs0.map a.eval); invoke d.target d.args) : Sem Next).run P w = .ok (.enter g (a' ++ xs0.map a.eval ++ b')) w := by
        simp [Deferred.ofValue, invoke, hrun, Sem.run_bind, Result.andThen]
      rw [hsem]
      refine ⟨fun h => by simp at h, (hcalls hD hS hRL ro _).mono fun e w' hp => ?_⟩
      obtain ⟨v', rfl, ρ', hR, ha, hS'⟩ := hp
      exact hK ρ' _ w' ha hS' (put_RT (hS.le ha) hτ hd hR) (put_defers _ _ _)
    · -- yield
      rename_i k hev
      rw [hev] at hf
      generalize a.eval f0 = fv at hf
      cases hf with
      | @yld _ L hL =>
      obtain ⟨fid, tmps, asg, body, hy, hround⟩ := hC.y h hD hS hargs hL
      have hsem : ((do let d ← Deferred.ofValue (Value.func (.yield L.blk) #[] #[]) (xs0.map a.eval); invoke d.target d.args) : Sem Next).run P w = .ok (.round L.blk fid tmps asg body) w := by
        simp [Deferred.ofValue, invoke, hy, Sem.run_bind, Result.andThen]
      rw [hsem]
      refine ⟨fun h => by simp at h, (hround ro _).mono fun e w' hp => ?_⟩
      obtain ⟨v', rfl, ρ', hR, ha, hS'⟩ := hp
      exact hK ρ' _ w' ha hS' (put_RT (hS.le ha) hτ hd hR) (put_defers _ _ _)
    · cases h
  · obtain ⟨heq, hnc⟩ := compOpC_plain (hcall.imp And.left id) h
    rw [heq] at h
    rw [Oper.semAt_eq _ _ _ (by intro c hh; rw [show compOp P o = .bad by unfold compOp; rw [hh]] at h; simp [aop] at h)]
    obtain ⟨nx, w', ρ', hrun, hnx, ha, hS'⟩ := op_ok hS hτ o hnc h
    rw [hrun]
    rcases hnx with ⟨v', rfl, hR⟩ | ⟨rfl, hu⟩
    · exact hK ρ' _ w' ha hS' (put_RT (hS.le ha) hτ hd hR) (put_defers _ _ _)
    · exact hK ρ' _ w' ha hS' (put_RT (hS.le ha) hτ hd (by rw [hu]; exact R.undef _ undef_bool)) (put_defers _ _ _)

theorem compIns_of {ops : List Oper} {o : Oper} {x : Ins} (h : compIns P nt ops o = some x) : x.dst = o.dst ∧ x.i = compOpC P o ∧ compG ops o = some x.g ∧ ∀ d, o.dst = some d → d < nt := by
  unfold compIns at h
  cases hd : o.dst with
  | none =>
    simp only [hd, if_true, Option.map_eq_some_iff] at h
    obtain ⟨g, hg, rfl⟩ := h
    exact ⟨rfl, rfl, hg, fun d e => by cases e⟩
  | some d =>
    simp only [hd, decide_eq_true_eq] at h
    split at h
    · rename_i hl
      simp only [Option.map_eq_some_iff] at h
      obtain ⟨g, hg, rfl⟩ := h
      exact ⟨rfl, rfl, hg, fun d e => by cases e; exact hl⟩
    · cases h

theorem ins_ok (hC : CallOk P call) {ops : Array Oper} {i : Nat} {o : Oper} (ho : ops[i]? = some o) {x : Ins} (hx : compIns P nt ops.toList o = some x) (hD : D.Nodup) {s s' : St} (h : ins call x s = some s')
    (hS : Sim P B0 w0 ρ s.H D w) (hτ : RT ρ nt s.τ a.tmps) {K : Act → World → Prop} {Q : Exit → Act → World → Prop} {ro : Option Nat} {n : Nat} (hK : Kont P B0 w0 D nt ρ s.H.length a s' K) : wpOpIn (FW ro) n P ops Q i K a w := by
  obtain ⟨h1, h2, h3, h4⟩ := compIns_of hx
  unfold wpOpIn
  simp only [ho]
  unfold ins at h
  split at h
  · rename_i hw
    rw [guard_ok h3 hτ hw]
    simp only [if_true] at h ⊢
    simp only [Option.map_eq_some_iff] at h
    obtain ⟨p, hp, rfl⟩ := h
    rw [h2] at hp
    exact oper_ok hC o hD hS hτ h4 hp (by rw [← h1]; exact hK)
  · rename_i hw
    rw [guard_ok h3 hτ hw]
    simp only [Bool.false_eq_true, if_false]
    cases h
    exact ⟨fun _ _ => trivial, hK ρ _ w (Agree.refl _ _) hS (by rw [h1]; exact put_RT (fun _ _ h => h) hτ h4 (R.undef _ undef_bool)) (put_defers _ _ _)⟩
  · cases h

/-! ### A region whose order is settled -/
theorem Kont.trans_le {ρ1 : Rho} {n m : Nat} {a a1 : Act} {s' : St} {K : Act → World → Prop} (hK : Kont P B0 w0 D nt ρ n a s' K) (ha : Agree n ρ ρ1) (hnm : n ≤ m) (hd : a1.defers = a.defers) :
    Kont P B0 w0 D nt ρ1 m a1 s' K := fun ρ' a' w' h1 h2 h3 h4 => hK ρ' a' w' (ha.trans h1 hnm) h2 h3 (h4.trans hd)

theorem insL_ok (hC : CallOk P call) {ops : Array Oper} (hD : D.Nodup) {Q : Exit → Act → World → Prop} {ro : Option Nat} {n : Nat} : ∀ (m i : Nat) (xs : List Ins) (s s' : St) (ρ : Rho) (a : Act) (w : World), i + m = ops.size →
    (∀ (j : Nat) (o : Oper), ops[i + j]? = some o → ∃ x, xs[j]? = some x ∧ compIns P nt ops.toList o = some x) → xs.length = m →
    insL call xs s = some s' → Sim P B0 w0 ρ s.H D w → RT ρ nt s.τ a.tmps → Kont P B0 w0 D nt ρ s.H.length a s' (Q .normal) →
    wpOpsIn (FW ro) n P ops Q (List.range' i m) a w
  | 0, i, xs, s, s', ρ, a, w, _, _, hl, h, hS, hτ, hK => by
    have : xs = [] := List.eq_nil_of_length_eq_zero hl
    subst this
    cases h
    exact hK ρ a w (Agree.refl _ _) hS hτ rfl
  | m + 1, i, xs, s, s', ρ, a, w, him, hx, hl, h, hS, hτ, hK => by
    cases xs with
    | nil => simp at hl
    | cons x xs =>
      simp only [insL, Option.bind_eq_some_iff] at h
      obtain ⟨s1, h1, h2⟩ := h
      have hlt : i < ops.size := by omega
      have hi : ops[i]? = some ops[i] := by simp [hlt]
      obtain ⟨y, hy, hcy⟩ := hx 0 ops[i] (by simpa using hi)
      simp at hy; subst hy
      rw [List.range'_succ, wpOpsIn_cons]
      refine ins_ok hC hi hcy hD h1 hS hτ fun ρ' a' w' ha hS' hτ' hd' => ?_
      have hg := ins_grow hC.grow h1
      refine insL_ok hC hD m (i + 1) xs s1 s' ρ' a' w' (by omega) (fun j o hj => ?_) (by simpa using hl) h2 hS' hτ' (hK.trans_le ha hg.1 hd')
      obtain ⟨y, hy, hcy⟩ := hx (j + 1) o (by rw [← hj]; congr 1; omega)
      exact ⟨y, by simpa using hy, hcy⟩

theorem mapM_get {α β : Type} {f : α → Option β} : ∀ {l : List α} {r : List β}, l.mapM f = some r → r.length = l.length ∧ ∀ (j : Nat) (x : α), l[j]? = some x → ∃ y, r[j]? = some y ∧ f x = some y
  | [], r, h => by simp at h; subst h; simp
  | x :: l, r, h => by
    simp only [List.mapM_cons] at h
    cases hx : f x with
    | none => simp [hx] at h
    | some y =>
      cases hl : l.mapM f with
      | none => simp [hx, hl] at h
      | some ys =>
        simp [hx, hl] at h
        subst h
        obtain ⟨h1, h2⟩ := mapM_get hl
        refine ⟨by simp [h1], fun j z hz => ?_⟩
        cases j with
        | zero => simp at hz; subst hz; exact ⟨y, rfl, hx⟩
        | succ j => simp at hz ⊢; exact h2 j z hz

theorem reg_ok (hC : CallOk P call) {id : Nat} {ops : Array Oper} {is : List Ins} (hm : ops.toList.mapM (compIns P nt ops.toList) = some is) (hD : D.Nodup) {s s' : St} (h : insL call is s = some s')
    (hS : Sim P B0 w0 ρ s.H D w) (hτ : RT ρ nt s.τ a.tmps) {Q : Exit → Act → World → Prop} {ro : Option Nat} {n : Nat} (hK : Kont P B0 w0 D nt ρ s.H.length a s' (Q .normal)) : (Code.region id ops false).wpIn (FW ro) n P Q a w := by
  obtain ⟨h1, h2⟩ := mapM_get hm
  refine wpIn_region ?_
  rw [List.range_eq_range']
  exact insL_ok hC hD ops.size 0 is s s' ρ a w (by omega) (fun j o hj => h2 j o (by simpa using hj)) (by simpa using h1) h hS hτ hK
end Go.Ar
/- Operations of a region that draws its order: which may change places. -/
set_option linter.unusedSimpArgs false
set_option linter.unusedVariables false
namespace Go.Ar
open Go.RowKit

variable {call : CallF} {τ τ' : Nat → V} {H H' : Heap} {N : Nat}

theorem ev_congr {x : X} (h : ∀ t ∈ x.tmps, τ t = τ' t) : ev τ x = ev τ' x := by
  cases x with
  | t n => exact h n (by simp [X.tmps])
  | c v => rfl
theorem evL_congr {l : List X} (h : ∀ t ∈ l.flatMap X.tmps, τ t = τ' t) : l.map (ev τ) = l.map (ev τ') := by
  refine List.map_congr_left fun x hx => ev_congr fun t ht => h t (List.mem_flatMap.2 ⟨x, hx, ht⟩)
theorem evO_congr {x : Option X} (h : ∀ t ∈ oX x, τ t = τ' t) : x.map (ev τ) = x.map (ev τ') := by
  cases x with
  | none => rfl
  | some x => simp only [Option.map_some]; rw [ev_congr (fun t ht => h t ht)]

theorem aop_congr {i : I} (h : ∀ t ∈ i.tmps, τ t = τ' t) : aop call τ H i = aop call τ' H i := by
  cases i
  case build zs ps =>
    have : (ps.map fun p => (p.1, p.2.1, ev τ p.2.2)) = ps.map fun p => (p.1, p.2.1, ev τ' p.2.2) :=
      List.map_congr_left fun p hp => by rw [ev_congr fun t ht => h t (by simp only [I.tmps, List.mem_flatMap]; exact ⟨p, hp, ht⟩)]
    simp only [aop, this]
  case bslice len size zs ps =>
    have : (ps.map fun p => (p.1, size, ev τ p.2)) = ps.map fun p => (p.1, size, ev τ' p.2) :=
      List.map_congr_left fun p hp => by rw [ev_congr fun t ht => h t (by simp only [I.tmps, List.mem_flatMap]; exact ⟨p, hp, ht⟩)]
    simp only [aop, this]
  case mkfn f a b =>
    have h1 : a.map (ev τ) = a.map (ev τ') := evL_congr fun t ht => h t (by simp only [I.tmps, List.flatMap_append, List.mem_append]; exact .inl ht)
    have h2 : b.map (ev τ) = b.map (ev τ') := evL_congr fun t ht => h t (by simp only [I.tmps, List.flatMap_append, List.mem_append]; exact .inr ht)
    simp only [aop, h1, h2]
  case call f args =>
    have h1 : ev τ f = ev τ' f := ev_congr fun t ht => h t (by simp only [I.tmps, List.mem_append]; exact .inl ht)
    have h2 : args.map (ev τ) = args.map (ev τ') := evL_congr fun t ht => h t (by simp only [I.tmps, List.mem_append]; exact .inr ht)
    simp only [aop, h1, h2]
  case slc size x lo hi =>
    have h1 : ev τ x = ev τ' x := ev_congr fun t ht => h t (by simp only [I.tmps, List.mem_append]; exact .inl (.inl ht))
    have h2 : lo.map (ev τ) = lo.map (ev τ') := evO_congr fun t ht => h t (by simp only [I.tmps, List.mem_append]; exact .inl (.inr ht))
    have h3 : hi.map (ev τ) = hi.map (ev τ') := evO_congr fun t ht => h t (by simp only [I.tmps, List.mem_append]; exact .inr ht)
    simp only [aop, h1, h2, h3]
  case pick a b c | mapupd kk a b c | entst a b c =>
    have h1 : ev τ a = ev τ' a := ev_congr fun t ht => h t (by simp only [I.tmps, List.mem_append]; exact .inl (.inl ht))
    have h2 : ev τ b = ev τ' b := ev_congr fun t ht => h t (by simp only [I.tmps, List.mem_append]; exact .inl (.inr ht))
    have h3 : ev τ c = ev τ' c := ev_congr fun t ht => h t (by simp only [I.tmps, List.mem_append]; exact .inr ht)
    simp only [aop, h1, h2, h3]
  case store n x v | bin op x v | eq ne e x v | iadr size x v | idx l size g x v | append size bytes x v | copy size x v | mn x v | mx x v | lookup kk z ok x v | mapent kk z x v =>
    have h1 : ev τ x = ev τ' x := ev_congr fun t ht => h t (by simp only [I.tmps, List.mem_append]; exact .inl ht)
    have h2 : ev τ v = ev τ' v := ev_congr fun t ht => h t (by simp only [I.tmps, List.mem_append]; exact .inr ht)
    simp only [aop, h1, h2]
  case mv x | box n x | load n g x | nilc x | neg x | not x | conv k x | mkslice a b c x | fadr o x | fld o n g x | ext x j | len x | mlen x | clear s z x =>
    have h1 : ev τ x = ev τ' x := ev_congr fun t ht => h t (by simpa only [I.tmps] using ht)
    simp only [aop, h1]
  all_goals rfl

theorem newOf_congr {i : I} (h : ∀ t ∈ i.tmps, τ t = τ' t) : newOf τ i = newOf τ' i := by
  cases i
  case bslice len size zs ps =>
    have : (ps.map fun p => (p.1, size, ev τ p.2)) = ps.map fun p => (p.1, size, ev τ' p.2) :=
      List.map_congr_left fun p hp => by rw [ev_congr fun t ht => h t (by simp only [I.tmps, List.mem_flatMap]; exact ⟨p, hp, ht⟩)]
    simp only [newOf, this]
  case box n x | mkslice a b c x =>
    have h1 : ev τ x = ev τ' x := ev_congr fun t ht => h t (by simpa only [I.tmps] using ht)
    simp only [newOf, h1]
  all_goals rfl

/-! ### What an operation does, apart from its slot -/
def eff (call : CallF) (N : Nat) (d : DM × Ins) (τ : Nat → V) (H : Heap) : Option (V × Heap) :=
  match wanted τ d.2.g with
  | some true => match d.1 with
    | .plain => aop call τ H d.2.i
    | .pcall hide => aop (pcall call (hide.map (N + ·))) τ H d.2.i
    | .hole j => match newOf τ d.2.i with
      | some (b, mk) => match H[N + j]? with
        | some .dead => some (mk (N + j), H.set (N + j) b)
        | _ => none
      | none => none
  | some false => some (.undef, H)
  | none => none

theorem dins_eff (d : DM × Ins) (s : St) : dins call N d s = (eff call N d s.τ s.H).map fun p => ⟨put s.τ d.2.dst p.1, p.2⟩ := by
  obtain ⟨m, x⟩ := d
  unfold dins eff ins
  cases m <;> cases hw : wanted s.τ x.g with
  | none => simp
  | some b => cases b <;> simp <;> (try rfl) <;> (repeat' split) <;> simp_all

theorem wanted_congr {g : Option (Nat × Bool)} (h : ∀ t b, g = some (t, b) → τ t = τ' t) : wanted τ g = wanted τ' g := by
  cases g with
  | none => rfl
  | some p => obtain ⟨t, b⟩ := p; simp only [wanted, h t b rfl]
theorem eff_congr {d : DM × Ins} (h : ∀ t ∈ d.2.reads, τ t = τ' t) : eff call N d τ H = eff call N d τ' H := by
  have hw : wanted τ d.2.g = wanted τ' d.2.g := wanted_congr fun t b e => h t (by unfold Ins.reads; rw [e]; simp)
  have hi : ∀ t ∈ d.2.i.tmps, τ t = τ' t := fun t ht => h t (by unfold Ins.reads; exact List.mem_append_right _ ht)
  unfold eff
  rw [hw]
  simp only [aop_congr (call := call) hi, aop_congr (call := pcall call _) hi, newOf_congr hi]

/-! ### Kinds -/
theorem pure_any {i : I} (hc : i.cl = .pure) {r : V × Heap} (h : aop call τ H i = some r) : r.2 = H ∧ ∀ (call' : CallF) (H' : Heap), aop call' τ H' i = some (r.1, H') := by
  cases i <;> simp only [I.cl] at hc <;> (try (cases hc; done)) <;> simp only [aop] at h ⊢
  all_goals
    repeat' split at h
    all_goals first
      | (cases h; done)
      | (cases h; exact ⟨rfl, fun _ _ => by simp_all <;> omega⟩)
      | (simp only [Option.map_eq_some_iff] at h; obtain ⟨v, hv, h⟩ := h; cases h; exact ⟨rfl, fun _ _ => by simp_all⟩)

theorem rd_at {k o : Nat} {v : V} (h : rd H k o = some v) : (∃ b, H[k]? = some b ∧ b.live = true) ∧ ∀ H' : Heap, H'[k]? = H[k]? → rd H' k o = some v := by
  refine ⟨?_, fun H' e => by unfold rd at h ⊢; rw [e]; exact h⟩
  unfold rd at h
  split at h
  · rename_i hk; exact ⟨_, hk, rfl⟩
  · cases h
theorem rdn_at {k o n : Nat} {v : List V} (h : rdn H k o n = some v) : (∃ b, H[k]? = some b ∧ b.live = true) ∧ ∀ H' : Heap, H'[k]? = H[k]? → rdn H' k o n = some v := by
  refine ⟨?_, fun H' e => by unfold rdn at h ⊢; rw [e]; exact h⟩
  unfold rdn at h
  split at h
  · rename_i hk; exact ⟨_, hk, rfl⟩
  · cases h
theorem mpAt_at {k : Nat} {v : List (V × V)} (h : mpAt H k = some v) : (∃ b, H[k]? = some b ∧ b.live = true) ∧ ∀ H' : Heap, H'[k]? = H[k]? → mpAt H' k = some v := by
  refine ⟨?_, fun H' e => by unfold mpAt at h ⊢; rw [e]; exact h⟩
  unfold mpAt at h
  split at h
  · rename_i hk; exact ⟨_, hk, rfl⟩
  · cases h

/-- What a reading operation says: it turns nothing, and hangs on the one block. -/
def Reads (call : CallF) (τ : Nat → V) (H : Heap) (i : I) (x : X) (r : V × Heap) : Prop :=
  r.2 = H ∧ (∀ k, (ev τ x).blk? = some k → ∃ b, H[k]? = some b ∧ b.live = true) ∧ ∀ (call' : CallF) (H' : Heap), (∀ k, (ev τ x).blk? = some k → H'[k]? = H[k]?) → aop call' τ H' i = some (r.1, H')

theorem mapOf_at {v : V} {es : List (V × V)} (h : mapOf H v = some es) : (∀ k, v.blk? = some k → ∃ b, H[k]? = some b ∧ b.live = true) ∧ ∀ H' : Heap, (∀ k, v.blk? = some k → H'[k]? = H[k]?) → mapOf H' v = some es := by
  cases v <;> simp only [mapOf] at h <;> (try (cases h; done))
  · exact ⟨fun k hk => by simp [V.blk?] at hk, fun H' _ => by simpa [mapOf] using h⟩
  · rename_i k
    obtain ⟨h1, h2⟩ := mpAt_at h
    exact ⟨fun j hj => by simp [V.blk?] at hj; subst hj; exact h1, fun H' e => by simpa [mapOf] using h2 H' (e k rfl)⟩

theorem slcv_at {size : Nat} {x v : V} {lo hi : Option V} (h : slcv H size x lo hi = some v) : (∀ k, x.blk? = some k → ∃ b, H[k]? = some b ∧ b.live = true) ∧ ∀ H' : Heap, (∀ k, x.blk? = some k → H'[k]? = H[k]?) → slcv H' size x lo hi = some v := by
  refine ⟨fun k hk => ?_, fun H' e => ?_⟩
  · unfold slcv at h
    split at h
    · simp only [V.blk?, Option.some.injEq] at hk
      subst hk
      repeat' split at h
      all_goals first | (cases h; done) | (rename_i hb; exact ⟨_, hb, rfl⟩) | (rename_i hb _; exact ⟨_, hb, rfl⟩)
    · simp [V.blk?] at hk
    · simp [V.blk?] at hk
    · cases h
  · unfold slcv at h ⊢
    split at h
    · rename_i k o len cap
      have := e k rfl
      simp only [this]
      exact h
    · exact h
    · exact h
    · cases h

theorem load_reads {i : I} {x : X} (hc : i.cl = .load x) {r : V × Heap} (h : aop call τ H i = some r) : Reads call τ H i x r := by
  cases i <;> simp only [I.cl] at hc <;> (try (cases hc; done)) <;> cases hc <;> simp only [aop] at h <;> simp only [Reads, aop]
  case load n g =>
    split at h
    · rename_i k o hk
      simp only [hk, V.blk?, Option.some.injEq]
      split at h
      · rename_i hg
        simp only [Option.map_eq_some_iff] at h
        obtain ⟨cs, h1, h⟩ := h
        cases h
        obtain ⟨h2, h3⟩ := rdn_at h1
        exact ⟨rfl, fun j hj => by subst hj; exact h2, fun _ H' e => by simp [hg, h3 H' (e k rfl)]⟩
      · rename_i hg
        simp only [Option.map_eq_some_iff] at h
        obtain ⟨cs, h1, h⟩ := h
        cases h
        obtain ⟨h2, h3⟩ := rd_at h1
        exact ⟨rfl, fun j hj => by subst hj; exact h2, fun _ H' e => by simp [hg, h3 H' (e k rfl)]⟩
    · cases h
  case slc size lo hi =>
    simp only [Option.map_eq_some_iff] at h
    obtain ⟨v, h1, h⟩ := h
    cases h
    obtain ⟨h2, h3⟩ := slcv_at h1
    exact ⟨rfl, h2, fun _ H' e => by simp [h3 H' e]⟩
  case mlen =>
    simp only [Option.map_eq_some_iff] at h
    obtain ⟨v, h1, h⟩ := h
    cases h
    obtain ⟨h2, h3⟩ := mapOf_at h1
    exact ⟨rfl, h2, fun _ H' e => by simp [h3 H' e]⟩
  case lookup kk z ok k =>
    split at h
    · rename_i es h1
      obtain ⟨h2, h3⟩ := mapOf_at h1
      refine ⟨?_, h2, fun _ H' e => ?_⟩
      · split at h <;> first | (cases h; rfl) | cases h
      · rw [h3 H' e]
        split at h
        · rename_i hk; cases h; simp [hk]
        · rename_i hk; cases h; simp [hk]
        · cases h
    · cases h
end Go.Ar
/- Two operations that stand side by side change places. -/
set_option linter.unusedSimpArgs false
set_option linter.unusedVariables false
namespace Go.Ar
open Go.RowKit

variable {call : CallF} {τ τ' : Nat → V} {H H' : Heap} {N nh : Nat}

def act (call : CallF) (N : Nat) (d : DM × Ins) (τ : Nat → V) (H : Heap) : Option (V × Heap) :=
  match d.1 with
  | .plain => aop call τ H d.2.i
  | .pcall hide => aop (pcall call (hide.map (N + ·))) τ H d.2.i
  | .hole j => match newOf τ d.2.i with
    | some (b, mk) => match H[N + j]? with
      | some .dead => some (mk (N + j), H.set (N + j) b)
      | _ => none
    | none => none
theorem eff_act (d : DM × Ins) : eff call N d τ H = match wanted τ d.2.g with | some true => act call N d τ H | some false => some (.undef, H) | none => none := rfl

/-! ### What each kind does -/
def FPure (f : Heap → Option (V × Heap)) : Prop := ∀ H r, f H = some r → r.2 = H ∧ ∀ H', f H' = some (r.1, H')
def FLoad (f : Heap → Option (V × Heap)) (x : Option Nat) : Prop :=
  ∀ H r, f H = some r → r.2 = H ∧ (∀ k, x = some k → ∃ b, H[k]? = some b ∧ b.live = true) ∧ ∀ H', (∀ k, x = some k → H'[k]? = H[k]?) → f H' = some (r.1, H')
def FHole (f : Heap → Option (V × Heap)) (n : Nat) : Prop :=
  ∀ H r, f H = some r → H[n]? = some .dead ∧ ∃ b, r.2 = H.set n b ∧ ∀ H' : Heap, H'[n]? = some .dead → f H' = some (r.1, H'.set n b)
def FStore (f : Heap → Option (V × Heap)) (x : Option Nat) : Prop :=
  ∀ H r, f H = some r → ∃ k b, x = some k ∧ k < H.length ∧ r.2 = H.set k b ∧ ∀ H' : Heap, H'[k]? = H[k]? → f H' = some (r.1, H'.set k b)
def setmo (H : Heap) : Option (Nat × Blk) → Heap
  | none => H
  | some (k, b) => H.set k b
def FApp (f : Heap → Option (V × Heap)) (x y : Option Nat) : Prop :=
  ∀ H r, f H = some r → ∃ mo tl, r.2 = setmo H mo ++ tl ∧ (∀ k b, mo = some (k, b) → x = some k ∧ k < H.length) ∧
    ∀ H' : Heap, H'.length = H.length → (∀ k, x = some k → H'[k]? = H[k]?) → (∀ k, y = some k → H'[k]? = H[k]?) → f H' = some (r.1, setmo H' mo ++ tl)
def FPc (f : Heap → Option (V × Heap)) (hide : List Nat) : Prop :=
  ∀ H r, f H = some r → ∃ tl, r.2 = H ++ tl ∧ ∀ H' : Heap, H'.length = H.length → (∀ k, k ∉ hide → H'[k]? = H[k]?) → f H' = some (r.1, H' ++ tl)

theorem wr_store {k o : Nat} {vs : List V} {H' : Heap} (h : wr H k o vs = some H') : ∃ b, k < H.length ∧ H' = H.set k b ∧ ∀ G : Heap, G[k]? = H[k]? → wr G k o vs = some (G.set k b) := by
  unfold wr at h
  split at h
  · rename_i cs m hk
    split at h
    · cases h
    · rename_i hm
      split at h
      · rename_i hl
        split at h
        · rename_i hs
          cases h
          refine ⟨_, (List.getElem?_eq_some_iff.1 hk).1, rfl, fun G e => ?_⟩
          unfold wr
          rw [e, hk]
          simp [hm, hl, hs]
        · cases h
      · cases h
  · cases h

theorem store_F {d : DM × Ins} {x : X} (h : kd d = .store x) : FStore (act call N d τ) (ev τ x).blk? := by
  obtain ⟨m, g, i, dst⟩ := d
  intro H r hr
  unfold kd at h
  cases m <;> cases i <;> simp [I.cl] at h
  subst h
  simp only [act, aop] at hr ⊢
  split at hr
  · rename_i k o cs hk hc
    simp only [hk, hc, V.blk?]
    split at hr
    · rename_i hn
      simp only [Option.map_eq_some_iff] at hr
      obtain ⟨H1, hw, hr⟩ := hr
      cases hr
      obtain ⟨b, h1, h2, h3⟩ := wr_store hw
      exact ⟨k, b, rfl, h1, h2, fun G e => by simp [hn, h3 G e]⟩
    · cases hr
  · cases hr

theorem hole_F {d : DM × Ins} {j : Nat} (h : kd d = .hole j) : FHole (act call N d τ) (N + j) := by
  obtain ⟨m, dst, i, g⟩ := d
  intro H r hr
  have hm : m = .hole j := by
    unfold kd at h
    cases m <;> cases i <;> simp [I.cl] at h <;> rw [h]
  subst hm
  simp only [act] at hr ⊢
  split at hr
  · rename_i b mk hb
    split at hr
    · rename_i hd
      cases hr
      exact ⟨hd, b, rfl, fun H' e => by simp [hb, e]⟩
    · cases hr
  · cases hr

theorem plain_of {d : DM × Ins} {x : X} (h : kd d = .load x) : d.1 = .plain ∧ d.2.i.cl = .load x := by
  obtain ⟨m, dst, i, g⟩ := d
  unfold kd at h
  cases m <;> cases hc : i.cl <;> simp [hc] at h
  subst h; exact ⟨rfl, rfl⟩
theorem load_F {d : DM × Ins} {x : X} (h : kd d = .load x) : FLoad (act call N d τ) (ev τ x).blk? := by
  obtain ⟨h1, h2⟩ := plain_of h
  intro H r hr
  unfold act at hr ⊢
  rw [h1] at hr ⊢
  obtain ⟨a, b, c⟩ := load_reads h2 hr
  exact ⟨a, b, fun H' e => c call H' e⟩
theorem pure_F {d : DM × Ins} (h : kd d = .pure) : FPure (act call N d τ) := by
  have : d.1 = .plain ∧ d.2.i.cl = .pure := by
    obtain ⟨m, dst, i, g⟩ := d
    unfold kd at h
    cases m <;> cases hc : i.cl <;> simp [hc] at h
    exact ⟨rfl, rfl⟩
  obtain ⟨h1, h2⟩ := this
  intro H r hr
  unfold act at hr ⊢
  rw [h1] at hr ⊢
  obtain ⟨a, b⟩ := pure_any h2 hr
  exact ⟨a, fun H' => b call H'⟩

theorem pc_F {d : DM × Ins} {hide : List Nat} (h : kd d = .pc hide) : FPc (act call N d τ) (hide.map (N + ·)) := by
  have : d.1 = .pcall hide ∧ ∃ f args, d.2.i = .call f args := by
    obtain ⟨m, dst, i, g⟩ := d
    unfold kd at h
    cases m <;> cases i <;> simp [I.cl] at h
    subst h; exact ⟨rfl, _, _, rfl⟩
  obtain ⟨h1, f, args, h2⟩ := this
  intro H r hr
  unfold act at hr ⊢
  rw [h1, h2] at hr
  rw [h1, h2]
  have key : ∀ t us, pcall call (hide.map (N + ·)) t us H = some r → ∃ tl, r.2 = H ++ tl ∧ ∀ H' : Heap, H'.length = H.length → (∀ k, k ∉ hide.map (N + ·) → H'[k]? = H[k]?) → pcall call (hide.map (N + ·)) t us H' = some (r.1, H' ++ tl) := by
    intro t us hp
    obtain ⟨v, R⟩ := r
    obtain ⟨Hp, hc, rfl⟩ := pcall_of hp
    refine ⟨_, rfl, fun H' hl he => ?_⟩
    have hprot : prot (hide.map (N + ·)) H' = prot (hide.map (N + ·)) H := by
      refine List.ext_getElem? fun k => ?_
      rw [getElem?_prot, getElem?_prot]
      by_cases hk : k ∈ hide.map (N + ·)
      · by_cases hlt : k < H.length
        · rw [List.getElem?_eq_getElem (by omega : k < H'.length), List.getElem?_eq_getElem hlt]; simp only [Option.map_some, if_pos hk]
        · rw [List.getElem?_eq_none (by omega), List.getElem?_eq_none (by omega)]
      · rw [he k hk]
    unfold pcall
    rw [hprot, hc, hl]
    rfl
  simp only [aop] at hr ⊢
  split at hr
  · exact key _ _ hr
  · exact key _ _ hr
  · cases hr

theorem cellsOf_at {size : Nat} {y : V} {ys : List V} (h : cellsOf H size y = some ys) {H' : Heap} (e : ∀ k, y.blk? = some k → H'[k]? = H[k]?) : cellsOf H' size y = some ys := by
  cases y <;> simp only [cellsOf] at h ⊢ <;> first | exact h | cases h | skip
  exact (rdn_at h).2 H' (e _ rfl)

theorem app_F {d : DM × Ins} {x y : X} (h : kd d = .app x y) : FApp (act call N d τ) (ev τ x).blk? (ev τ y).blk? := by
  have : d.1 = .plain ∧ ∃ s b, d.2.i = .append s b x y := by
    obtain ⟨m, dst, i, g⟩ := d
    unfold kd at h
    cases m <;> cases i <;> simp [I.cl] at h
    obtain ⟨rfl, rfl⟩ := h; exact ⟨rfl, _, _, rfl⟩
  obtain ⟨h1, size, bytes, h2⟩ := this
  intro H r hr
  unfold act at hr ⊢
  rw [h1, h2] at hr
  rw [h1, h2]
  simp only [aop] at hr ⊢
  unfold appendv at hr
  split at hr
  case h_2 => cases hr
  rename_i m ys hm hys
  split at hr
  · cases hr
  rename_i hsc
  split at hr
  · rename_i hx
    split at hr
    · rename_i h0
      cases hr
      refine ⟨none, [], by simp [setmo], (fun _ _ h => by cases h), fun H' _ _ e2 => ?_⟩
      unfold appendv
      simp [hm, cellsOf_at hys e2, hsc, hx, h0, setmo]
    · rename_i h0
      split at hr
      · rename_i hb
        cases hr
        refine ⟨none, _, by simp only [setmo]; rfl, (fun _ _ h => by cases h), fun H' hl _ e2 => ?_⟩
        unfold appendv
        simp [hm, cellsOf_at hys e2, hsc, hx, h0, setmo, hb, hl]
      · cases hr
  · rename_i k o len cap hx
    simp only [hx, V.blk?, Option.some.injEq]
    split at hr
    case h_2 => cases hr
    rename_i cs md hk
    split at hr
    case isFalse => cases hr
    rename_i hle
    split at hr
    · rename_i hcap
      split at hr
      case h_2 => cases hr
      rename_i H1 hw
      cases hr
      obtain ⟨b, hkl, rfl, h3⟩ := wr_store hw
      refine ⟨some (k, b), [], by simp [setmo], (fun _ _ h => by cases h; exact ⟨rfl, hkl⟩), fun H' hl e1 e2 => ?_⟩
      unfold appendv
      simp [hm, cellsOf_at hys e2, hsc, setmo, e1 k rfl, hk, hle, hcap, h3 H' (e1 k rfl)]
    · rename_i hcap
      split at hr
      case isFalse => cases hr
      rename_i hb
      split at hr
      · cases hr
        refine ⟨none, _, by simp only [setmo]; rfl, (fun _ _ h => by cases h), fun H' hl e1 e2 => ?_⟩
        unfold appendv
        simp [hm, cellsOf_at hys e2, hsc, setmo, e1 k rfl, hk, hle, hcap, hb, hl]
      · split at hr
        case isFalse => cases hr
        rename_i hes
        cases hr
        refine ⟨some (k, .dead), _, by simp only [setmo]; rfl, (fun _ _ h => by cases h; exact ⟨rfl, (List.getElem?_eq_some_iff.1 hk).1⟩), fun H' hl e1 e2 => ?_⟩
        unfold appendv
        have hle' : len * size ≤ cs.length := by omega
        simp [hm, cellsOf_at hys e2, hsc, setmo, e1 k rfl, hk, hle, hcap, hb, hl, hes, hle']
      · cases hr
  · cases hr

/-! ### The one map: an entry asked for behind a look -/
theorem keyEq_eq {a b : V} (h : keyEq a b = some true) : a = b := by
  unfold keyEq at h
  split at h
  · split at h
    · rename_i hk; subst hk; simp at h; subst h; rfl
    · cases h
  · split at h
    · rename_i hk; obtain ⟨rfl, rfl⟩ := hk; simp at h; obtain ⟨rfl, rfl⟩ := h; rfl
    · cases h
  · cases h

theorem findk_at {x : V} : ∀ {es : List (V × V)} {i j : Nat} {v : V}, findk x es i = some (some (j, v)) → i ≤ j ∧ es[j - i]? = some (x, v)
  | [], i, j, v, h => by simp [findk] at h
  | e :: es, i, j, v, h => by
    simp only [findk] at h
    split at h
    · rename_i hk
      cases h
      have := keyEq_eq hk
      subst this
      simp
    · obtain ⟨h1, h2⟩ := findk_at h
      refine ⟨by omega, ?_⟩
      rw [show j - i = (j - (i + 1)) + 1 by omega]
      simpa using h2
    · cases h

theorem findk_push {x v : V} (hx : keyEq x x = some true) : ∀ {es : List (V × V)} {i : Nat}, findk x es i = some none → findk x (es ++ [(x, v)]) i = some (some (i + es.length, v))
  | [], i, h => by simp [findk, hx]
  | e :: es, i, h => by
    simp only [findk, List.cons_append] at h ⊢
    split at h
    · cases h
    · rw [findk_push hx h]
      simp
      omega
    · cases h
theorem keyEq_self {kk : KK} {x : V} (h : keyWf kk x = true) : keyEq x x = some true := by
  unfold keyWf at h
  split at h
  · simp [keyEq]
  · simp [keyEq]
  · cases h

theorem sameZero_inv {i j : I} (h : sameZero i j = true) : ∃ kk z a k, i = .lookup kk z false (.t a) (.t k) ∧ j = .mapent kk z (.t a) (.t k) := by
  cases i <;> (try (simp [sameZero] at h; done))
  cases j <;> (try (simp [sameZero] at h; done))
  rename_i kk z ok m k kk' z' m' k'
  cases ok <;> (try (simp [sameZero] at h; done))
  cases m <;> (try (simp [sameZero] at h; done))
  cases k <;> (try (simp [sameZero] at h; done))
  cases m' <;> (try (simp [sameZero] at h; done))
  cases k' <;> (try (simp [sameZero] at h; done))
  cases z <;> (try (simp [sameZero] at h; done))
  cases z' <;> (try (simp [sameZero] at h; done))
  simp [sameZero] at h
  obtain ⟨⟨⟨rfl, rfl⟩, rfl⟩, rfl, rfl⟩ := h
  exact ⟨_, _, _, _, rfl, rfl⟩

theorem ment_swap {x y : DM × Ins} {a b : X} (hx : kd x = .load a) (hy : kd y = .ment b) (hs : sameZero x.2.i y.2.i = true) {v1 v2 : V} {H1 H2 : Heap} (h1 : act call N x τ H = some (v1, H1)) (h2 : act call N y τ H1 = some (v2, H2)) :
    act call N y τ H = some (v2, H2) ∧ act call N x τ H2 = some (v1, H2) := by
  obtain ⟨e1, e2⟩ := plain_of hx
  have e3 : y.1 = .plain := by
    obtain ⟨m, dst, i, g⟩ := y
    unfold kd at hy
    cases m <;> cases hc : i.cl <;> simp [hc] at hy
    rfl
  obtain ⟨kk, z, a, k, i1, i2⟩ := sameZero_inv hs
  unfold act at h1 h2 ⊢
  rw [e1, i1] at h1 ⊢
  rw [e3, i2] at h2 ⊢
  simp only at h1 h2 ⊢
  simp only [aop, ev] at h1 h2 ⊢
  generalize τ a = m at h1 h2 ⊢
  generalize τ k = key at h1 h2 ⊢
  cases m <;> simp only at h2 <;> (try (cases h2; done))
  rename_i q
  have hH : H1 = H := by
    simp only [mapOf] at h1
    split at h1
    · split at h1 <;> first | (cases h1; rfl) | cases h1
    · cases h1
  subst hH
  refine ⟨h2, ?_⟩
  simp only [mapOf] at h1 ⊢
  cases he : mpAt H1 q with
  | none => rw [he] at h1; cases h1
  | some es =>
    rw [he] at h1 h2
    simp only at h1 h2
    have hq : H1[q]? = some (.mp es) := by
      unfold mpAt at he
      split at he
      · rename_i hq; cases he; exact hq
      · cases he
    have hlt : q < H1.length := (List.getElem?_eq_some_iff.1 hq).1
    have hset : ∀ es', mpAt (H1.set q (.mp es')) q = some es' := fun es' => by simp [mpAt, hlt]
    unfold keyf at h1 h2 ⊢
    by_cases hwf : keyWf kk key = true
    case neg => rw [if_neg hwf] at h1; cases h1
    rw [if_pos hwf] at h1 h2
    cases hf : findk key es 0 with
    | none => rw [hf] at h1; cases h1
    | some r =>
      rw [hf] at h1 h2
      cases r with
      | none =>
        cases h1; cases h2
        rw [hset]
        simp only [if_pos hwf]
        rw [findk_push (keyEq_self hwf) hf]
        rfl
      | some p =>
        obtain ⟨i, u⟩ := p
        cases h1; cases h2
        have hi := (findk_at hf).2
        simp only [Nat.sub_zero] at hi
        have : es.set i (key, u) = es := by
          refine List.ext_getElem? fun j => ?_
          rw [List.getElem?_set]
          split
          · rename_i e; subst e; split
            · exact hi.symm
            · rename_i hn; rw [hi] ; simp_all
          · rfl
        rw [hset, this]
        simp only [if_pos hwf, hf]

/-! ### Change of places -/
theorem setmo_length (H : Heap) (mo : Option (Nat × Blk)) : (setmo H mo).length = H.length := by
  cases mo with
  | none => rfl
  | some p => obtain ⟨k, b⟩ := p; simp [setmo]
theorem setmo_get {H : Heap} {mo : Option (Nat × Blk)} {k : Nat} (h : ∀ b, mo ≠ some (k, b)) : (setmo H mo)[k]? = H[k]? := by
  cases mo with
  | none => rfl
  | some p =>
    obtain ⟨j, b⟩ := p
    simp only [setmo]
    rw [List.getElem?_set_ne]
    intro e; subst e; exact h b rfl

theorem chk_ne {a b : X} (h : Chk.ok N nh τ (.ne a b) = true) {k : Nat} (ha : (ev τ a).blk? = some k) : (ev τ b).blk? ≠ some k := by
  intro hb
  simp only [Chk.ok, ha, hb] at h
  simp at h
theorem chk_nh {a : X} {j : Nat} (h : Chk.ok N nh τ (.nh a j) = true) : (ev τ a).blk? ≠ some (N + j) := by
  intro hb
  simp only [Chk.ok, hb] at h
  simp at h
theorem chk_lt {a : X} (h : Chk.ok N nh τ (.lt a) = true) {k : Nat} (ha : (ev τ a).blk? = some k) : k < N + nh := by
  simp only [Chk.ok, ha] at h
  simpa using h

theorem act_swap {x y : DM × Ins} {cks : List Chk} (hp : pairK (kd x) (kd y) (sameZero x.2.i y.2.i) = some cks) (hck : ∀ c ∈ cks, Chk.ok N nh τ c = true) (hN : N + nh ≤ H.length) (hj : ∀ j, kd y = .hole j → j < nh)
    {v1 v2 : V} {H1 H2 : Heap} (h1 : act call N x τ H = some (v1, H1)) (h2 : act call N y τ H1 = some (v2, H2)) :
    ∃ H1', act call N y τ H = some (v2, H1') ∧ act call N x τ H1' = some (v1, H2) := by
  by_cases hxp : kd x = .pure
  · obtain ⟨e1, e2⟩ := pure_F hxp _ _ h1
    simp only at e1; subst e1
    exact ⟨H2, h2, e2 H2⟩
  by_cases hyp : kd y = .pure
  · obtain ⟨e1, e2⟩ := pure_F hyp _ _ h2
    simp only at e1; subst e1
    exact ⟨H, e2 H, h1⟩
  cases hx : kd x <;> cases hy : kd y <;> simp only [hx, hy, pairK] at hp hxp hyp <;> (try (cases hp; done)) <;> (try (exact absurd trivial hxp)) <;> (try (exact absurd trivial hyp))
  case load.load a b =>
    obtain ⟨e1, _, e2⟩ := load_F hx _ _ h1
    obtain ⟨e3, _, e4⟩ := load_F hy _ _ h2
    simp only at e1 e3; subst e1; subst e3
    exact ⟨_, h2, h1⟩
  case load.hole a j =>
    obtain ⟨e1, e1', e2⟩ := load_F hx _ _ h1
    simp only at e1; subst e1
    obtain ⟨e3, b, e4, e5⟩ := hole_F hy _ _ h2
    simp only at e4; subst e4
    refine ⟨_, e5 _ e3, e2 _ fun k hk => ?_⟩
    obtain ⟨c, hc, hl⟩ := e1' k hk
    rw [List.getElem?_set_ne]
    intro e; subst e; rw [e3] at hc; cases hc; simp [Blk.live] at hl
  case load.store a b =>
    cases hp
    obtain ⟨e1, e1', e2⟩ := load_F hx _ _ h1
    simp only at e1; subst e1
    obtain ⟨k, c, e3, e4, e5, e6⟩ := store_F hy _ _ h2
    simp only at e5; subst e5
    refine ⟨_, e6 _ rfl, e2 _ fun j hj' => ?_⟩
    have := chk_ne (hck (.ne a b) (by simp)) hj'
    rw [List.getElem?_set_ne]
    intro e; subst e; exact this e3
  case load.app a b c =>
    cases hp
    obtain ⟨e1, e1', e2⟩ := load_F hx _ _ h1
    simp only at e1; subst e1
    obtain ⟨mo, tl, e3, e4, e5⟩ := app_F hy _ _ h2
    simp only at e3; subst e3
    refine ⟨_, e5 _ rfl (fun _ _ => rfl) (fun _ _ => rfl), e2 _ fun j hj' => ?_⟩
    have := chk_ne (hck (.ne a b) (by simp)) hj'
    obtain ⟨d, hd, _⟩ := e1' j hj'
    have hlt : j < (setmo H1 mo).length := by rw [setmo_length]; exact (List.getElem?_eq_some_iff.1 hd).1
    rw [List.getElem?_append_left hlt]
    exact setmo_get fun d hd => this (e4 _ _ hd).1
  case load.pc a hide =>
    obtain ⟨e1, e1', e2⟩ := load_F hx _ _ h1
    simp only at e1; subst e1
    obtain ⟨tl, e3, e4⟩ := pc_F hy _ _ h2
    simp only at e3; subst e3
    refine ⟨_, e4 _ rfl (fun _ _ => rfl), e2 _ fun j hj' => ?_⟩
    obtain ⟨d, hd, _⟩ := e1' j hj'
    rw [List.getElem?_append_left (List.getElem?_eq_some_iff.1 hd).1]
  case load.ment a b =>
    split at hp
    · rename_i hs
      obtain ⟨e1, e2⟩ := ment_swap hx hy hs h1 h2
      exact ⟨_, e1, e2⟩
    · cases hp
  case hole.load j b =>
    cases hp
    obtain ⟨e1, c, e2, e3⟩ := hole_F hx _ _ h1
    simp only at e2; subst e2
    obtain ⟨e4, e5, e6⟩ := load_F hy _ _ h2
    simp only at e4; subst e4
    refine ⟨_, e6 H fun k hk => ?_, e3 _ e1⟩
    rw [List.getElem?_set_ne]
    intro e; subst e; exact chk_nh (hck (.nh b j) (by simp)) hk
  case hole.hole i j =>
    split at hp
    · cases hp
    · rename_i hij
      obtain ⟨e1, c, e2, e3⟩ := hole_F hx _ _ h1
      simp only at e2; subst e2
      obtain ⟨e4, d, e5, e6⟩ := hole_F hy _ _ h2
      simp only at e5; subst e5
      rw [List.getElem?_set_ne (by omega)] at e4
      refine ⟨_, e6 _ e4, ?_⟩
      rw [e3 _ (by rw [List.getElem?_set_ne (by omega)]; exact e1), List.set_comm _ _ (by omega)]
  case hole.store j b =>
    cases hp
    obtain ⟨e1, c, e2, e3⟩ := hole_F hx _ _ h1
    simp only at e2; subst e2
    obtain ⟨k, d, e4, e5, e6, e7⟩ := store_F hy _ _ h2
    simp only at e6; subst e6
    have hne : k ≠ N + j := fun e => chk_nh (hck (.nh b j) (by simp)) (e ▸ e4)
    refine ⟨_, e7 H (by rw [List.getElem?_set_ne (by omega)]), ?_⟩
    rw [e3 _ (by rw [List.getElem?_set_ne hne]; exact e1), List.set_comm _ _ hne]
  case app.load a c b =>
    cases hp
    obtain ⟨mo, tl, e1, e2, e3⟩ := app_F hx _ _ h1
    simp only at e1; subst e1
    obtain ⟨e4, e5, e6⟩ := load_F hy _ _ h2
    simp only at e4; subst e4
    refine ⟨_, e6 H fun k hk => ?_, h1⟩
    have hlt := chk_lt (hck (.lt b) (by simp)) hk
    rw [List.getElem?_append_left (by rw [setmo_length]; omega)]
    refine (setmo_get fun d hd => ?_).symm
    exact chk_ne (hck (.ne a b) (by simp)) (e2 _ _ hd).1 hk
  case app.hole a c j =>
    cases hp
    have hjl := hj j hy
    obtain ⟨mo, tl, e1, e2, e3⟩ := app_F hx _ _ h1
    simp only at e1; subst e1
    obtain ⟨e4, d, e5, e6⟩ := hole_F hy _ _ h2
    simp only at e5; subst e5
    have hna := chk_nh (hck (.nh a j) (by simp))
    have hnc := chk_nh (hck (.nh c j) (by simp))
    have hmo : ∀ b, mo ≠ some (N + j, b) := fun b hb => hna (e2 _ _ hb).1
    rw [List.getElem?_append_left (by rw [setmo_length]; omega), setmo_get hmo] at e4
    refine ⟨_, e6 H e4, ?_⟩
    rw [e3 _ (by simp) (fun k hk => by rw [List.getElem?_set_ne]; intro e; subst e; exact hna hk) (fun k hk => by rw [List.getElem?_set_ne]; intro e; subst e; exact hnc hk)]
    rw [List.set_append_left _ _ (by rw [setmo_length]; omega)]
    congr 3
    cases mo with
    | none => rfl
    | some p =>
      obtain ⟨k, b⟩ := p
      simp only [setmo]
      exact List.set_comm _ _ (fun e => hmo b (by rw [e]))
  case pc.load hide b =>
    cases hp
    obtain ⟨tl, e1, e2⟩ := pc_F hx _ _ h1
    simp only at e1; subst e1
    obtain ⟨e4, e5, e6⟩ := load_F hy _ _ h2
    simp only at e4; subst e4
    refine ⟨_, e6 H fun k hk => ?_, h1⟩
    have hlt := chk_lt (hck (.lt b) (by simp)) hk
    rw [List.getElem?_append_left (by omega)]
  case pc.hole hide j =>
    split at hp
    · rename_i hmem
      have hjl := hj j hy
      obtain ⟨tl, e1, e2⟩ := pc_F hx _ _ h1
      simp only at e1; subst e1
      obtain ⟨e4, d, e5, e6⟩ := hole_F hy _ _ h2
      simp only at e5; subst e5
      rw [List.getElem?_append_left (by omega)] at e4
      refine ⟨_, e6 H e4, ?_⟩
      rw [e2 _ (by simp) (fun k hk => by
        rw [List.getElem?_set_ne]
        intro e; subst e
        exact hk (List.mem_map.2 ⟨j, by simpa using hmem, rfl⟩))]
      rw [List.set_append_left _ _ (by omega)]
    · cases hp
end Go.Ar
/- A region that draws its order: whatever order is drawn, it comes to what the abstract run, in the text's order, comes to. -/
set_option linter.unusedSimpArgs false
set_option linter.unusedVariables false
namespace Go.Ar
open Go.RowKit

variable {P : Program} {B0 : Nat} {w0 : World} {ρ : Rho} {H : Heap} {D : List Nat} {w : World} {nt : Nat} {τ τ' : Nat → V} {a : Act} {call : CallF} {N nh : Nat}

/-! ### A new block, in a hole -/
theorem optB_new {α : Type} {o : Option α} {f : α → I} {r : Blk × (Nat → V)} (h : newOf τ (optB o f) = some r) : ∃ x, o = some x ∧ newOf τ (f x) = some r := by
  cases o with
  | none => simp [optB, newOf] at h
  | some x => exact ⟨x, rfl, h⟩

/-- What is laid, and how its value looks. -/
def Laid (P : Program) (ρ : Rho) (w : World) (s : Sem Next) (b : Blk) (mk : Nat → V) : Prop :=
  ∃ (v' : Value) (cs' : Array Value) (T : TypeId) (cs : List V), s.run P w = .ok (.value v') (w.alloc (.cells cs' T)) ∧ b = .cells cs .ex ∧ RL ρ cs cs'.toList ∧ ∀ (ρ' : Rho) (n : Nat), ρ' n = some (newLoc w) → R ρ' (mk n) v'

theorem laid_ptr {ρ' : Rho} {n : Nat} (h : ρ' n = some (newLoc w)) : R ρ' (.ptr n 0) (.pointer (some ⟨w.heap.size, 0, none⟩)) := by
  have := @R.ptr ρ' n 0 (newLoc w) h
  simpa [newLoc] using this
theorem laid_sl {ρ' : Rho} {n len : Nat} (h : ρ' n = some (newLoc w)) : R ρ' (.sl n 0 len len) (.slice (some ⟨w.heap.size, 0, none⟩) len len) := by
  have := @R.sl ρ' n 0 len len len (newLoc w) h rfl
  simpa [newLoc] using this

set_option maxHeartbeats 1000000 in
theorem op_new (hτ : RT ρ nt τ a.tmps) (hS : Sim P B0 w0 ρ H D w) (o : Oper) (hn : newOp o = true) {b : Blk} {mk : Nat → V} (h : newOf τ (compOp P o) = some (b, mk)) : Laid P ρ w (execOp a.eval o) b mk := by
  obtain ⟨dst, op, type, pos, after, guard⟩ := o
  have E := fun x => ev_ok hτ x
  cases op <;> (try (simp [newOp] at hn; done)) <;> simp only [compOp] at h <;> simp only [execOp]
  case alloc t =>
    obtain ⟨zs, hz, h⟩ := optB_new h
    simp only [newOf] at h
    cases h
    obtain ⟨i, z, hi, hz', hs, rfl, _⟩ := tzero_of hz
    refine ⟨.pointer (some ⟨w.heap.size, 0, none⟩), z.cells, t, _, ?_, rfl, zero_RL ρ z, fun ρ' n hn => laid_ptr hn⟩
    simp [Instr.alloc, tzero_run hi hz', run_newVar]
  case box t x =>
    obtain ⟨n, hn, h⟩ := optB_new h
    simp only [newOf] at h
    cases hc : (ev τ (cX x)).cells with
    | none => simp [hc] at h
    | some cs =>
      simp only [hc] at h
      split at h
      · cases h
        refine ⟨.pointer (some ⟨w.heap.size, 0, none⟩), (a.eval x).cells, t, _, ?_, rfl, (E x).cellsOne hc, fun ρ' n hn => laid_ptr hn⟩
        simp [Instr.box, run_newVar]
      · cases h
  case buildSlice t len parts =>
    obtain ⟨e, he, h⟩ := optB_new h
    obtain ⟨n, hn, h⟩ := optB_new h
    obtain ⟨zs, hz, h⟩ := optB_new h
    split at h
    · rename_i hc
      simp only [newOf, Option.map_eq_some_iff] at h
      obtain ⟨cs, h1, h⟩ := h
      cases h
      obtain ⟨cs', h2, h3⟩ := op_bslice hS hτ he hn hz hc.2 hc.1 h1
      exact ⟨_, cs', e, _, by simp [h3], rfl, h2, fun ρ' n hn => laid_sl hn⟩
    · simp [newOf] at h
  case makeSlice t l c =>
    cases l <;> cases c <;> (try (simp [newOf] at h; done))
    rename_i l c
    simp only at h
    split at h
    case isFalse => simp [newOf] at h
    rename_i hlc
    subst hlc
    obtain ⟨e, he, h⟩ := optB_new h
    split at h
    case h_2 => simp [newOf] at h
    rename_i i hi
    split at h
    case isFalse => simp [newOf] at h
    rename_i hsz
    obtain ⟨zs, hz, h⟩ := optB_new h
    simp only [newOf] at h
    have hx := E (.tmp l)
    simp only [cX] at hx
    cases hxv : ev τ (.t l) <;> simp only [hxv] at h hx <;> (try (cases h; done))
    rename_i k n
    split at h
    · rename_i hc
      cases h
      rw [hx.int_inv]
      obtain ⟨cs', h2, h3⟩ := op_mkslice (kk := k) hS he hi hsz hz hc.1 hc.2.1 hc.2.2
      exact ⟨_, cs', e, _, by simp [h3], rfl, h2, fun ρ' n hn => laid_sl hn⟩
    · cases h

theorem noCall_new {i : I} {r : Blk × (Nat → V)} (h : newOf τ (noCall i) = some r) : noCall i = i := by
  unfold noCall at h ⊢
  split at h
  · simp [newOf] at h
  · rfl
theorem noNew_new {i : I} {r : Blk × (Nat → V)} (h : newOf τ (noNew i) = some r) : False := by
  cases i <;> simp [noNew, newOf] at h

/-- The machine's operation behind an instruction that is made in a hole. -/
theorem hole_ok {ops : Array Oper} {i : Nat} {o : Oper} (ho : ops[i]? = some o) {x : Ins} (hx : compIns P nt ops.toList o = some x) {j : Nat} {s s' : St} (h : dins call N (.hole j, x) s = some s')
    (hS : Sim P B0 w0 ρ s.H D w) (hτ : RT ρ nt s.τ a.tmps) (hj : ρ (N + j) = none) {K : Act → World → Prop} {Q : Exit → Act → World → Prop} {ro : Option Nat} {n : Nat}
    (hK : ∀ (ρ' : Rho) (a' : Act) (w' : World), (∀ k, k ≠ N + j → ρ' k = ρ k) → Sim P B0 w0 ρ' s'.H D w' → RT ρ' nt s'.τ a'.tmps → a'.defers = a.defers → K a' w') : wpOpIn (FW ro) n P ops Q i K a w := by
  obtain ⟨h1, h2, h3, h4⟩ := compIns_of hx
  unfold wpOpIn
  simp only [ho]
  unfold dins at h
  simp only at h
  split at h
  · rename_i hw
    rw [guard_ok h3 hτ hw]
    simp only [if_true]
    split at h
    case h_2 => cases h
    rename_i b mk hb
    split at h
    case h_2 => cases h
    rename_i hdead
    cases h
    rw [h2] at hb
    rcases compOpC_cases (P := P) o with ⟨c, f0, _, _, hc⟩ | ⟨hc, hnew⟩ | hc
    · rw [hc] at hb; simp [newOf] at hb
    case inr.inr => rw [hc] at hb; exact (noNew_new hb).elim
    rw [hc] at hb
    have heq := noCall_new hb
    rw [heq] at hb
    obtain ⟨v', cs', T, cs, hrun, rfl, hRL, hmk⟩ := op_new hτ hS o hnew hb
    refine ⟨fun _ _ => trivial, ?_⟩
    rw [Oper.semAt_eq _ _ _ (by intro c hh; rw [show compOp P o = .bad by unfold compOp; rw [hh]] at hb; simp [newOf] at hb), hrun]
    have hlt : N + j < s.H.length := (List.getElem?_eq_some_iff.1 hdead).1
    have hle : RLe ρ (ext ρ (N + j) (newLoc w)) := le_ext hj _
    refine hK (ext ρ (N + j) (newLoc w)) _ _ (fun k hk => by unfold ext; rw [if_neg hk]) ?_ ?_ (put_defers _ _ _)
    · refine hS.newAt (.cells cs' T) (.cells cs .ex) (newLoc w) rfl hj (fun k hk c hc _ => ?_) (fun c hc => ?_) (by simp) (by simpa using hlt) fun _ => ⟨cs', T, (0, 0), World.alloc_heap_new w _, fun i v hv => ?_, hS.sizeLe, rfl, rfl, rfl, by rw [hRL.1]; simp⟩
      · rwa [List.getElem?_set_ne (by omega)] at hc
      · rw [List.getElem?_set_self hlt] at hc; cases hc; rfl
      · obtain ⟨u, hu, hR⟩ := hRL.get hv
        exact ⟨u, by simpa [newLoc] using hu, hR.mono hle⟩
    · rw [h1]; exact put_RT hle hτ h4 (hmk _ _ (by simp [ext]))
  · rename_i hw
    rw [guard_ok h3 hτ hw]
    simp only [Bool.false_eq_true, if_false]
    cases h
    exact ⟨fun _ _ => trivial, hK ρ _ w (fun _ _ => rfl) hS (by rw [h1]; exact put_RT (fun _ _ h => h) hτ h4 (R.undef _ undef_bool)) (put_defers _ _ _)⟩
  · cases h

/-! ### Slots -/
theorem put_comm {d e : Option Nat} {u v : V} (h : ∀ x, d = some x → e ≠ some x) : put (put τ d u) e v = put (put τ e v) d u := by
  cases d with
  | none => rfl
  | some d =>
    cases e with
    | none => rfl
    | some e =>
      have hne : d ≠ e := fun x => h d rfl (by rw [x])
      funext t
      simp only [put, upd]
      by_cases h1 : t = d
      · have : (t == e) = false := by simp; omega
        have h2 : (t == d) = true := by simpa using h1
        rw [this, h2]; rfl
      · have h2 : (t == d) = false := by simpa using h1
        rw [h2]; rfl
theorem put_other {d : Option Nat} {v : V} {t : Nat} (h : d ≠ some t) : put τ d v t = τ t := by
  cases d with
  | none => rfl
  | some d =>
    simp only [put, upd]
    have : (t == d) = false := by simp; intro e; exact h (by rw [e])
    rw [this]; rfl

theorem dins_slot {d : DM × Ins} {s s' : St} (h : dins call N d s = some s') {t : Nat} (ht : d.2.dst ≠ some t) : s'.τ t = s.τ t := by
  rw [dins_eff] at h
  simp only [Option.map_eq_some_iff] at h
  obtain ⟨p, _, rfl⟩ := h
  exact put_other ht
theorem dinsL_slot {t : Nat} : ∀ {l : List (DM × Ins)} {s s' : St}, dinsL call N l s = some s' → (∀ d ∈ l, d.2.dst ≠ some t) → s'.τ t = s.τ t
  | [], _, _, h, _ => by cases h; rfl
  | d :: l, s, s', h, hd => by
    simp only [dinsL, Option.bind_eq_some_iff] at h
    obtain ⟨s1, h1, h2⟩ := h
    exact (dinsL_slot h2 fun e he => hd e (by simp [he])).trans (dins_slot h1 (hd d (by simp)))

theorem apart_inv {x y : Ins} (h : x.apart y = true) : (∀ d, x.dst = some d → d ∉ y.reads ∧ y.dst ≠ some d) ∧ ∀ d, y.dst = some d → d ∉ x.reads := by
  unfold Ins.apart at h
  rw [Bool.and_eq_true] at h
  obtain ⟨h1, h2⟩ := h
  refine ⟨fun d hd => ?_, fun d hd => ?_⟩
  · rw [hd] at h1
    simp only [Bool.and_eq_true, Bool.not_eq_true', beq_eq_false_iff_ne, List.contains_eq_mem, decide_eq_false_iff_not] at h1
    exact ⟨h1.1, h1.2⟩
  · rw [hd] at h2
    simpa using h2

theorem dins_swap {x y : DM × Ins} (ha : x.2.apart y.2 = true) {s s1 s2 : St} {cks : List Chk} (hp : pairK (kd x) (kd y) (sameZero x.2.i y.2.i) = some cks) (hck : ∀ c ∈ cks, Chk.ok N nh s.τ c = true)
    (hN : N + nh ≤ s.H.length) (hj : ∀ j, kd y = .hole j → j < nh) (h1 : dins call N x s = some s1) (h2 : dins call N y s1 = some s2) :
    ∃ s1', dins call N y s = some s1' ∧ dins call N x s1' = some s2 := by
  obtain ⟨a1, a2⟩ := apart_inv ha
  rw [dins_eff] at h1
  simp only [Option.map_eq_some_iff] at h1
  obtain ⟨p, hp1, rfl⟩ := h1
  rw [dins_eff] at h2
  simp only [Option.map_eq_some_iff] at h2
  obtain ⟨q, hq1, rfl⟩ := h2
  have hy : eff call N y (put s.τ x.2.dst p.1) p.2 = eff call N y s.τ p.2 := eff_congr fun t ht => put_other fun e => (a1 t e).1 ht
  rw [hy] at hq1
  have key : ∃ H1', eff call N y s.τ s.H = some (q.1, H1') ∧ eff call N x s.τ H1' = some (p.1, q.2) := by
    rw [eff_act] at hp1 hq1
    cases hwx : wanted s.τ x.2.g with
    | none => rw [hwx] at hp1; cases hp1
    | some bx =>
      cases hwy : wanted s.τ y.2.g with
      | none => rw [hwy] at hq1; cases hq1
      | some bvy =>
        rw [hwx] at hp1
        rw [hwy] at hq1
        simp only [eff_act, hwx, hwy]
        cases bx
        · simp only at hp1
          cases hp1
          exact ⟨q.2, hq1, rfl⟩
        · cases bvy
          · simp only at hq1
            cases hq1
            exact ⟨s.H, rfl, hp1⟩
          · exact act_swap hp hck hN hj hp1 hq1
  obtain ⟨H1', k1, k2⟩ := key
  refine ⟨⟨put s.τ y.2.dst q.1, H1'⟩, by rw [dins_eff, k1]; rfl, ?_⟩
  rw [dins_eff]
  have hx : eff call N x (put s.τ y.2.dst q.1) H1' = eff call N x s.τ H1' := eff_congr fun t ht => put_other fun e => a2 t e ht
  simp only [hx, k2, Option.map_some]
  congr 2
  exact put_comm fun d hd he => (a1 d he).2 hd

/-! ### One is taken from the middle -/
def chkT : Chk → List Nat
  | .ne x y => x.tmps ++ y.tmps
  | .nh x _ | .lt x => x.tmps
theorem chk_congr {c : Chk} (h : ∀ t ∈ chkT c, τ t = τ' t) : Chk.ok N nh τ c = Chk.ok N nh τ' c := by
  cases c with
  | ne x y =>
    have h1 : ev τ x = ev τ' x := ev_congr fun t ht => h t (by simp [chkT, ht])
    have h2 : ev τ y = ev τ' y := ev_congr fun t ht => h t (by simp [chkT, ht])
    simp only [Chk.ok, h1, h2]
  | nh x j =>
    have h1 : ev τ x = ev τ' x := ev_congr fun t ht => h t (by simpa [chkT] using ht)
    simp only [Chk.ok, h1]
  | lt x =>
    have h1 : ev τ x = ev τ' x := ev_congr fun t ht => h t (by simpa [chkT] using ht)
    simp only [Chk.ok, h1]

theorem cl_tmps {i : I} : (∀ x, i.cl = .load x → ∀ t ∈ x.tmps, t ∈ i.tmps) ∧ (∀ x, i.cl = .store x → ∀ t ∈ x.tmps, t ∈ i.tmps) ∧ (∀ x y, i.cl = .app x y → (∀ t ∈ x.tmps, t ∈ i.tmps) ∧ ∀ t ∈ y.tmps, t ∈ i.tmps) := by
  cases i <;> simp [I.cl, I.tmps] <;> (try (constructor)) <;> intros <;> simp_all
theorem kd_tmps {d : DM × Ins} : (∀ x, kd d = .load x → ∀ t ∈ x.tmps, t ∈ d.2.reads) ∧ (∀ x, kd d = .store x → ∀ t ∈ x.tmps, t ∈ d.2.reads) ∧ (∀ x y, kd d = .app x y → (∀ t ∈ x.tmps, t ∈ d.2.reads) ∧ ∀ t ∈ y.tmps, t ∈ d.2.reads) := by
  obtain ⟨m, dst, i, g⟩ := d
  obtain ⟨c1, c2, c3⟩ := @cl_tmps i
  have hr : ∀ t, t ∈ i.tmps → t ∈ (⟨dst, i, g⟩ : Ins).reads := fun t ht => by unfold Ins.reads; exact List.mem_append_right _ ht
  unfold kd
  refine ⟨fun x h => ?_, fun x h => ?_, fun x y h => ?_⟩
  · cases m <;> cases hc : i.cl <;> simp [hc] at h
    subst h; exact fun t ht => hr t (c1 _ hc t ht)
  · cases m <;> cases hc : i.cl <;> simp [hc] at h
    subst h; exact fun t ht => hr t (c2 _ hc t ht)
  · cases m <;> cases hc : i.cl <;> simp [hc] at h
    obtain ⟨rfl, rfl⟩ := h
    exact ⟨fun t ht => hr t ((c3 _ _ hc).1 t ht), fun t ht => hr t ((c3 _ _ hc).2 t ht)⟩

theorem pairK_tmps {x y : DM × Ins} {sm : Bool} {cks : List Chk} (h : pairK (kd x) (kd y) sm = some cks) : ∀ c ∈ cks, (kd x).isPure = false ∧ (kd y).isPure = false ∧ ∀ t ∈ chkT c, t ∈ x.2.reads ∨ t ∈ y.2.reads := by
  obtain ⟨x1, x2, x3⟩ := @kd_tmps x
  obtain ⟨y1, y2, y3⟩ := @kd_tmps y
  intro c hc
  cases hx : kd x <;> cases hy : kd y <;> simp only [hx, hy, pairK] at h <;> (try (cases h; done)) <;> (try (cases h; cases hc; done)) <;> (try (split at h <;> cases h; cases hc; done)) <;>
    (try (split at h <;> cases h <;> cases hc; done)) <;> refine ⟨rfl, rfl, fun t ht => ?_⟩ <;> cases h <;> simp only [List.mem_cons, List.not_mem_nil, or_false] at hc
  all_goals
    first
    | (rcases hc with rfl | rfl <;> simp only [chkT, List.mem_append] at ht)
    | (subst hc; simp only [chkT, List.mem_append] at ht)
  case load.hole => exact .inl (x1 _ hx _ ht)
  case load.store => exact ht.imp (x1 _ hx _) (y2 _ hy _)
  case load.app => exact ht.imp (x1 _ hx _) ((y3 _ _ hy).1 _)
  case hole.load => exact .inr (y1 _ hy _ ht)
  case hole.store => exact .inr (y2 _ hy _ ht)
  case app.load.refl.inl => exact ht.imp ((x3 _ _ hx).1 _) (y1 _ hy _)
  case app.load.refl.inr => exact .inr (y1 _ hy _ ht)
  case app.hole.refl.inl => exact .inl ((x3 _ _ hx).1 _ ht)
  case app.hole.refl.inr => exact .inl ((x3 _ _ hx).2 _ ht)
  case pc.load.refl => exact .inr (y1 _ hy _ ht)

/-- z writes nothing that x looks at (or x looks at no memory). -/
def NW (x z : DM × Ins) : Prop := (kd x).isPure = true ∨ ∀ d, z.2.dst = some d → d ∉ x.2.reads
def Swaps (N nh : Nat) (τ : Nat → V) (x y : DM × Ins) : Prop := x.2.apart y.2 = true ∧ ∃ cks, pairK (kd x) (kd y) (sameZero x.2.i y.2.i) = some cks ∧ ∀ c ∈ cks, Chk.ok N nh τ c = true

theorem bubble (hc : GrowC call) {y : DM × Ins} {post : List (DM × Ins)} {sf : St} (hj : ∀ j, kd y = .hole j → j < nh) : ∀ (pre : List (DM × Ins)) (s : St), (∀ x ∈ pre, Swaps N nh sf.τ x y) →
    (pre ++ y :: post).Pairwise NW → (∀ x ∈ pre ++ y :: post, NW x x) → N + nh ≤ s.H.length → dinsL call N (pre ++ y :: post) s = some sf →
    ∃ s', dins call N y s = some s' ∧ dinsL call N (pre ++ post) s' = some sf
  | [], s, _, _, _, _, h => by
    simp only [List.nil_append, dinsL, Option.bind_eq_some_iff] at h
    exact h
  | x :: pre, s, hs, hp, hself, hN, h => by
    have hall := h
    simp only [List.cons_append, dinsL, Option.bind_eq_some_iff] at h
    obtain ⟨s1, h1, h2⟩ := h
    rw [List.cons_append, List.pairwise_cons] at hp
    obtain ⟨hx, hp'⟩ := hp
    have hN1 : N + nh ≤ s1.H.length := Nat.le_trans hN (dins_grow hc h1).1
    obtain ⟨s2, h3, h4⟩ := bubble hc hj pre s1 (fun z hz => hs z (by simp [hz])) hp' (fun z hz => hself z (by simp only [List.cons_append, List.mem_cons]; exact .inr hz)) hN1 h2
    obtain ⟨hap, cks, hk, hck⟩ := hs x (by simp)
    have hck' : ∀ c ∈ cks, Chk.ok N nh s.τ c = true := fun c hcm => by
      obtain ⟨p1, p2, p3⟩ := pairK_tmps hk c hcm
      rw [← hck c hcm]
      refine chk_congr fun t ht => (dinsL_slot hall fun d hd e => ?_).symm
      rcases p3 t ht with hr | hr
      · -- x looks at t
        have : NW x d := by
          simp only [List.cons_append, List.mem_cons] at hd
          rcases hd with rfl | hd
          · exact hself _ (by simp)
          · exact hx d hd
        rcases this with h | h
        · rw [p1] at h; cases h
        · exact h t e hr
      · have : NW y d ∨ d.2.apart y.2 = true := by
          simp only [List.cons_append, List.mem_cons, List.mem_append] at hd
          rcases hd with rfl | hd | rfl | hd
          · exact .inr hap
          · exact .inr (hs d (by simp [hd])).1
          · exact .inl (hself _ (by simp))
          · rw [List.pairwise_append] at hp'
            exact .inl ((List.pairwise_cons.1 hp'.2.1).1 d hd)
        rcases this with (h | h) | h
        · rw [p2] at h; cases h
        · exact h t e hr
        · exact ((apart_inv h).1 t e).1 hr
    obtain ⟨s1', h5, h6⟩ := dins_swap hap hk hck' hN hj h1 h3
    refine ⟨s1', h5, ?_⟩
    simp only [List.cons_append, dinsL, Option.bind_eq_some_iff]
    exact ⟨s2, h6, h4⟩
end Go.Ar
/- A region that draws its order, whole. -/
set_option linter.unusedSimpArgs false
set_option linter.unusedVariables false
namespace Go.Ar
open Go.RowKit

variable {P : Program} {B0 : Nat} {w0 : World} {ρ : Rho} {H : Heap} {D : List Nat} {w : World} {nt : Nat} {τ τ' : Nat → V} {a : Act} {call : CallF} {N nh : Nat}

/-! ### What the compiler has looked at -/
theorem nums_length : ∀ (is : List Ins) (n : Nat), (nums is n).length = is.length
  | [], _ => rfl
  | x :: xs, n => by simp [nums, nums_length xs]
theorem modes_length (bs : List Nat) (is : List Ins) : (modes bs is).length = is.length := by
  simp [modes, nums_length]
theorem modes_get {bs : List Nat} {is : List Ins} {j : Nat} {d : DM × Ins} (h : (modes bs is)[j]? = some d) : is[j]? = some d.2 := by
  unfold modes at h
  simp only [List.getElem?_map, Option.map_eq_some_iff] at h
  obtain ⟨x, hx, rfl⟩ := h
  rw [List.getElem?_zipIdx] at hx
  simp only [Option.map_eq_some_iff] at hx
  obtain ⟨y, hy, rfl⟩ := hx
  rw [List.getElem?_zip_eq_some] at hy
  exact hy.1

theorem rowOk_spec {bs : List Nat} {x : (DM × Ins) × Nat} : ∀ {l : List ((DM × Ins) × Nat)} {cs : List Chk}, rowOk bs x l = some cs → ∀ y ∈ l, ∃ c, pairOk bs x y = some c ∧ ∀ k ∈ c, k ∈ cs
  | [], _, _, y, hy => by cases hy
  | z :: l, cs, h, y, hy => by
    simp only [rowOk] at h
    split at h
    · rename_i c1 c2 h1 h2
      cases h
      rcases List.mem_cons.1 hy with rfl | hy
      · exact ⟨c1, h1, fun k hk => List.mem_append_left _ hk⟩
      · obtain ⟨c, h3, h4⟩ := rowOk_spec h2 y hy
        exact ⟨c, h3, fun k hk => List.mem_append_right _ (h4 k hk)⟩
    · cases h
theorem allOk_spec {bs : List Nat} : ∀ {l : List ((DM × Ins) × Nat)} {cs : List Chk}, allOk bs l = some cs → (∀ x ∈ l, selfOk x.1 = true) ∧ l.Pairwise fun x y => ∃ c, pairOk bs x y = some c ∧ ∀ k ∈ c, k ∈ cs
  | [], _, _ => ⟨fun _ h => (by cases h), List.Pairwise.nil⟩
  | x :: l, cs, h => by
    simp only [allOk] at h
    split at h
    · rename_i hs
      split at h
      · rename_i c1 c2 h1 h2
        cases h
        obtain ⟨h3, h4⟩ := allOk_spec h2
        refine ⟨fun y hy => ?_, List.Pairwise.cons (fun y hy => ?_) (h4.imp fun hc => ?_)⟩
        · rcases List.mem_cons.1 hy with rfl | hy
          · exact hs
          · exact h3 y hy
        · obtain ⟨c, h5, h6⟩ := rowOk_spec h1 y hy
          exact ⟨c, h5, fun k hk => List.mem_append_left _ (h6 k hk)⟩
        · obtain ⟨c, h5, h6⟩ := hc
          exact ⟨c, h5, fun k hk => List.mem_append_right _ (h6 k hk)⟩
      · cases h
    · cases h

theorem nw_of {x z : DM × Ins} (h : nwB x z = true) : NW x z := by
  unfold nwB at h
  rcases Bool.or_eq_true _ _ ▸ h with h | h
  · exact .inl h
  · refine .inr fun d hd => ?_
    rw [hd] at h
    simpa using h

def holeOf (d : DM × Ins) : Option Nat := match d.1 with | .hole j => some j | _ => none
theorem kd_hole {d : DM × Ins} {j : Nat} (h : kd d = .hole j) : holeOf d = some j := by
  obtain ⟨m, x⟩ := d
  unfold kd at h
  cases m <;> cases hc : x.i.cl <;> simp [hc] at h <;> simp [holeOf, h]
theorem holes_lt : ∀ {l : List (DM × Ins)} {d : DM × Ins} {j : Nat}, d ∈ l → holeOf d = some j → j < holes l
  | [], _, _, h, _ => by cases h
  | e :: l, d, j, h, hj => by
    obtain ⟨m, x⟩ := e
    rcases List.mem_cons.1 h with rfl | h
    · cases m <;> simp [holeOf] at hj
      subst hj
      simp only [holes]; omega
    · have := holes_lt h hj
      cases m <;> simp only [holes] <;> omega

theorem pairOk_spec {bs : List Nat} {x y : (DM × Ins) × Nat} {c : List Chk} (h : pairOk bs x y = some c) :
    NW x.1 y.1 ∧ (∀ j, holeOf x.1 = some j → holeOf y.1 ≠ some j) ∧ ((bs.getD y.2 0).testBit x.2 = true ∨ (x.1.2.apart y.1.2 = true ∧ pairK (kd x.1) (kd y.1) (sameZero x.1.2.i y.1.2.i) = some c)) := by
  unfold pairOk at h
  split at h
  · rename_i hc
    rw [Bool.and_eq_true] at hc
    refine ⟨nw_of hc.1, ?_, ?_⟩
    · intro j hj hj'
      obtain ⟨⟨m, x⟩, i⟩ := x
      obtain ⟨⟨m', x'⟩, i'⟩ := y
      cases m <;> simp [holeOf] at hj
      cases m' <;> simp [holeOf] at hj'
      subst hj; subst hj'
      simp [holeNe] at hc
    · split at h
      · rename_i hb; exact .inl hb
      · split at h
        · rename_i ha; exact .inr ⟨ha, h⟩
        · cases h
  · cases h

/-! ### What stands ahead of each -/
def bef1 (acc : List Nat) (o : Oper) : Nat := o.after.toList.foldl (fun s e => if Region.binds .any e then s ||| 2 ^ e.on ||| acc.getD e.on 0 else s) 0
theorem bef1_spec {acc : List Nat} {x : Nat} : ∀ (l : List Edge) (s : Nat), (l.foldl (fun s e => if Region.binds .any e then s ||| 2 ^ e.on ||| acc.getD e.on 0 else s) s).testBit x = true →
    s.testBit x = true ∨ ∃ e ∈ l, Region.binds .any e = true ∧ (x = e.on ∨ (acc.getD e.on 0).testBit x = true)
  | [], s, h => .inl h
  | e :: l, s, h => by
    simp only [List.foldl_cons] at h
    rcases bef1_spec l _ h with h | ⟨e', he, h⟩
    · split at h
      · rename_i hb
        rw [Nat.testBit_or, Nat.testBit_or, Nat.testBit_two_pow] at h
        simp only [Bool.or_eq_true, decide_eq_true_eq] at h
        rcases h with (h | h) | h
        · exact .inl h
        · exact .inr ⟨e, by simp, hb, .inl h.symm⟩
        · exact .inr ⟨e, by simp, hb, .inr h⟩
      · exact .inl h
    · exact .inr ⟨e', by simp [he], h⟩

theorem befs_fold : ∀ (ops : List Oper) (acc : List Nat), ∃ r, ops.foldl (fun acc o => acc ++ [bef1 acc o]) acc = acc ++ r ∧ r.length = ops.length ∧
    ∀ (j : Nat) (o : Oper), ops[j]? = some o → r[j]? = some (bef1 ((acc ++ r).take (acc.length + j)) o)
  | [], acc => ⟨[], by simp, rfl, fun j o h => by simp at h⟩
  | o :: ops, acc => by
    obtain ⟨r, h1, h2, h3⟩ := befs_fold ops (acc ++ [bef1 acc o])
    refine ⟨bef1 acc o :: r, by rw [List.foldl_cons, h1]; simp, by simp [h2], fun j q hj => ?_⟩
    cases j with
    | zero => simp at hj; subst hj; simp
    | succ j =>
      simp only [List.getElem?_cons_succ] at hj ⊢
      have := h3 j q hj
      rw [this]
      congr 2
      simp only [List.append_assoc, List.singleton_append, List.length_append, List.length_cons, List.length_nil]
      congr 1
      omega

theorem befs_spec {ops : List Oper} {i x : Nat} {o : Oper} (ho : ops[i]? = some o) (h : ((befs ops).getD i 0).testBit x = true) :
    ∃ e ∈ o.after.toList, Region.binds .any e = true ∧ (x = e.on ∨ ((befs ops).getD e.on 0).testBit x = true) := by
  obtain ⟨r, h1, h2, h3⟩ := befs_fold ops []
  have hb : befs ops = r := by unfold befs; simpa [bef1] using h1
  have hi := h3 i o ho
  rw [hb] at h ⊢
  rw [List.getD_eq_getElem?_getD, hi] at h
  simp only [List.nil_append, List.length_nil, Nat.zero_add, Option.getD_some] at h
  rcases bef1_spec _ _ h with h | ⟨e, he, hbi, h⟩
  · simp at h
  · refine ⟨e, he, hbi, h.imp id fun h => ?_⟩
    rw [List.getD_eq_getElem?_getD, List.getElem?_take] at h
    split at h
    · rwa [List.getD_eq_getElem?_getD]
    · simp at h

/-! ### The order that is drawn -/
structure DrawOk (ops : Array Oper) (dl : List (DM × Ins)) (cs : List Chk) (nt : Nat) (P : Program) : Prop where
  len : dl.length = ops.size
  ins : ∀ (i : Nat) (o : Oper), ops[i]? = some o → ∃ d, dl[i]? = some d ∧ compIns P nt ops.toList o = some d.2
  self : ∀ d ∈ dl, NW d d
  pair : ∀ (i j : Nat) (x y : DM × Ins), i < j → dl[i]? = some x → dl[j]? = some y → NW x y ∧ (∀ k, holeOf x = some k → holeOf y ≠ some k) ∧
    (((befs ops.toList).getD j 0).testBit i = true ∨ (x.2.apart y.2 = true ∧ ∃ c, pairK (kd x) (kd y) (sameZero x.2.i y.2.i) = some c ∧ ∀ k ∈ c, k ∈ cs))
  back : ∀ (i : Nat) (o : Oper), ops[i]? = some o → ∀ e ∈ o.after, Region.binds .any e = true → e.on < i

def dflt : DM × Ins := (.plain, ⟨none, .bad, none⟩)

theorem dinsOne_ok (hC : CallOk P call) {ops : Array Oper} {i : Nat} {o : Oper} (ho : ops[i]? = some o) {d : DM × Ins} (hx : compIns P nt ops.toList o = some d.2) (hD : D.Nodup) {s s' : St} (h : dins call N d s = some s')
    (hS : Sim P B0 w0 ρ s.H D w) (hτ : RT ρ nt s.τ a.tmps) (hh : ∀ j, holeOf d = some j → ρ (N + j) = none) (hN : N + nh ≤ s.H.length) {K : Act → World → Prop} {Q : Exit → Act → World → Prop} {ro : Option Nat} {n : Nat}
    (hK : ∀ (ρ' : Rho) (a' : Act) (w' : World), (∀ k, k < N + nh → (∀ j, holeOf d = some j → k ≠ N + j) → ρ' k = ρ k) → Sim P B0 w0 ρ' s'.H D w' → RT ρ' nt s'.τ a'.tmps → a'.defers = a.defers → K a' w') :
    wpOpIn (FW ro) n P ops Q i K a w := by
  obtain ⟨m, x⟩ := d
  cases m with
  | plain =>
    exact ins_ok hC ho hx hD (h : ins call x s = some s') hS hτ fun ρ' a' w' h1 => hK ρ' a' w' fun k hk _ => h1 k (by omega)
  | pcall hide =>
    exact ins_ok (hC.pcall (hide.map (N + ·))) ho hx hD (h : ins _ x s = some s') hS hτ fun ρ' a' w' h1 => hK ρ' a' w' fun k hk _ => h1 k (by omega)
  | hole j =>
    exact hole_ok ho hx h hS hτ (hh j rfl) fun ρ' a' w' h1 => hK ρ' a' w' fun k hk h2 => h1 k (h2 j rfl)

theorem filter_ne_mid {l pre post : List Nat} {i : Nat} (h : l = pre ++ i :: post) (hp : l.Pairwise (· < ·)) : l.filter (fun k => k != i) = pre ++ post := by
  subst h
  rw [List.pairwise_append] at hp
  obtain ⟨_, h2, h3⟩ := hp
  rw [List.pairwise_cons] at h2
  rw [List.filter_append, List.filter_cons]
  simp only [bne_self_eq_false, Bool.false_eq_true, if_false]
  congr 1
  · refine List.filter_eq_self.2 fun x hx => ?_
    have := h3 x hx i (by simp)
    simp; omega
  · refine List.filter_eq_self.2 fun x hx => ?_
    have := h2.1 x hx
    simp; omega

theorem any_ok (hC : CallOk P call) {ops : Array Oper} {dl : List (DM × Ins)} {cs : List Chk} (hd : DrawOk ops dl cs nt P) (hnh : holes dl ≤ nh) (hD : D.Nodup) {sf : St} (hck : ∀ c ∈ cs, Chk.ok N nh sf.τ c = true)
    {Q : Exit → Act → World → Prop} {ro : Option Nat} {n : Nat} : ∀ (fuel : Nat) (listed : Array Bool) (rem : List Nat) (s : St) (ρ : Rho) (a : Act) (w : World),
    listed.size = ops.size → rem = (List.range ops.size).filter (fun i => !(listed.getD i true)) → rem.length = fuel →
    (∀ i, listed.getD i false = true → ∀ j, ((befs ops.toList).getD i 0).testBit j = true → listed.getD j false = true) →
    dinsL call N (rem.map (dl.getD · dflt)) s = some sf → Sim P B0 w0 ρ s.H D w → RT ρ nt s.τ a.tmps → (∀ i ∈ rem, ∀ j, holeOf (dl.getD i dflt) = some j → ρ (N + j) = none) → N + nh ≤ s.H.length →
    (∀ (ρ' : Rho) (a' : Act) (w' : World), Agree N ρ ρ' → Sim P B0 w0 ρ' sf.H D w' → RT ρ' nt sf.τ a'.tmps → a'.defers = a.defers → Q .normal a' w') →
    wpAnyIn (FW ro) n P .any ops Q fuel listed a w := by
  have hgd : ∀ (listed : Array Bool) (i : Nat), listed.size = ops.size → i < ops.size → listed.getD i true = listed.getD i false := fun listed i hs hi => by
    simp [Array.getD, hs, hi]
  have hready : ∀ (listed : Array Bool) (i : Nat), listed.size = ops.size → i ∈ Region.ready .any ops listed → i < ops.size ∧ listed.getD i true = false := fun listed i hs hi => by
    obtain ⟨h1, o, ho, _⟩ := mem_ready.1 hi
    exact ⟨(Array.getElem?_eq_some_iff.1 ho).1, h1⟩
  intro fuel
  induction fuel with
  | zero =>
    intro listed rem s ρ a w hsz hrem hlen hcl h hS hτ hh hN hK
    have : rem = [] := List.eq_nil_of_length_eq_zero hlen
    subst this
    cases h
    refine ⟨?_, hK ρ a w (Agree.refl _ _) hS hτ rfl⟩
    rw [List.eq_nil_iff_forall_not_mem]
    intro i hi
    obtain ⟨h1, h2⟩ := hready listed i hsz hi
    have : i ∈ (List.range ops.size).filter (fun i => !(listed.getD i true)) := by
      rw [List.mem_filter]; exact ⟨by simpa using h1, by rw [h2]; rfl⟩
    rw [← hrem] at this
    cases this
  | succ fuel ih =>
    intro listed rem s ρ a w hsz hrem hlen hcl h hS hτ hh hN hK
    have hsorted : rem.Pairwise (· < ·) := by rw [hrem]; exact List.Pairwise.filter _ List.pairwise_lt_range
    have hmem : ∀ i, i ∈ rem ↔ i < ops.size ∧ listed.getD i false = false := fun i => by
      rw [hrem, List.mem_filter, List.mem_range]
      constructor
      · rintro ⟨h1, h2⟩; exact ⟨h1, by rw [← hgd listed i hsz h1]; simpa using h2⟩
      · rintro ⟨h1, h2⟩; exact ⟨h1, by rw [hgd listed i hsz h1, h2]; rfl⟩
    have hget : ∀ i, i < ops.size → ∃ o d, ops[i]? = some o ∧ dl[i]? = some d ∧ dl.getD i dflt = d ∧ compIns P nt ops.toList o = some d.2 := fun i hi => by
      have ho : ops[i]? = some ops[i] := by simp [hi]
      obtain ⟨d, h1, h2⟩ := hd.ins i _ ho
      exact ⟨_, d, ho, h1, by rw [List.getD_eq_getElem?_getD, h1]; rfl, h2⟩
    refine ⟨fun hnil => ?_, fun i hi => ?_⟩
    · -- the first that stands still is ready
      exfalso
      cases hrc : rem with
      | nil => rw [hrc] at hlen; cases hlen
      | cons i0 r =>
        have hi0 : i0 ∈ rem := by rw [hrc]; simp
        obtain ⟨h1, h2⟩ := (hmem i0).1 hi0
        obtain ⟨o, d, ho, _⟩ := hget i0 h1
        have : i0 ∈ Region.ready .any ops listed := mem_ready.2 ⟨by rw [hgd listed i0 hsz h1]; exact h2, o, ho, fun e he hb => by
          have hlt := hd.back i0 o ho e he hb
          cases hle : listed.getD e.on false with
          | true => rfl
          | false =>
            have hm : e.on ∈ rem := (hmem e.on).2 ⟨by omega, hle⟩
            rw [hrc] at hm hsorted
            rcases List.mem_cons.1 hm with h | h
            · omega
            · have := (List.pairwise_cons.1 hsorted).1 _ h; omega⟩
        rw [hnil] at this; cases this
    · obtain ⟨hilt, hiun⟩ := hready listed i hsz hi
      have hir : i ∈ rem := (hmem i).2 ⟨hilt, by rw [← hgd listed i hsz hilt]; exact hiun⟩
      obtain ⟨pre, post, hsplit⟩ := List.append_of_mem hir
      obtain ⟨o, d, ho, hdi, hdd, hci⟩ := hget i hilt
      obtain ⟨_, o', ho', hall⟩ := mem_ready.1 hi
      rw [ho] at ho'; cases ho'
      have hs2 := hsorted
      rw [hsplit, List.pairwise_append] at hs2
      obtain ⟨_, hs3, hs4⟩ := hs2
      have hlisted : ∀ x, ((befs ops.toList).getD i 0).testBit x = true → listed.getD x false = true := fun x hx => by
        obtain ⟨e, he, hb, h⟩ := befs_spec (by simpa using ho) hx
        have hle := hall e (by simpa using he) hb
        rcases h with rfl | h
        · exact hle
        · exact hcl _ hle x h
      have hmap : rem.map (dl.getD · dflt) = pre.map (dl.getD · dflt) ++ d :: post.map (dl.getD · dflt) := by rw [hsplit]; simp [← hdd]
      have hpw : (rem.map (dl.getD · dflt)).Pairwise NW := by
        rw [List.pairwise_map]
        refine hsorted.imp_of_mem fun {x y} hx hy hlt => ?_
        obtain ⟨_, dx, _, h1, h2, _⟩ := hget x ((hmem x).1 hx).1
        obtain ⟨_, dy, _, h3, h4, _⟩ := hget y ((hmem y).1 hy).1
        rw [h2, h4]
        exact (hd.pair x y dx dy hlt h1 h3).1
      have hself : ∀ x ∈ rem.map (dl.getD · dflt), NW x x := fun x hx => by
        obtain ⟨k, hk, rfl⟩ := List.mem_map.1 hx
        obtain ⟨_, dx, _, h1, h2, _⟩ := hget k ((hmem k).1 hk).1
        rw [h2]; exact hd.self dx (List.mem_of_getElem? h1)
      rw [hmap] at h hpw hself
      have hdl : d ∈ dl := List.mem_of_getElem? hdi
      obtain ⟨s', hs', hrest⟩ := bubble (nh := nh) hC.grow (fun j hj => Nat.lt_of_lt_of_le (holes_lt hdl (kd_hole hj)) hnh) _ s (fun x hx => by
        obtain ⟨k, hk, rfl⟩ := List.mem_map.1 hx
        have hkr : k ∈ rem := by rw [hsplit]; exact List.mem_append_left _ hk
        obtain ⟨hk1, hk2⟩ := (hmem k).1 hkr
        obtain ⟨_, dx, _, h1, h2, _⟩ := hget k hk1
        have hlt : k < i := hs4 k hk i (by simp)
        rw [h2]
        rcases (hd.pair k i dx d hlt h1 hdi).2.2 with hb | ⟨ha, c, hc, hcc⟩
        · have := hlisted k hb; rw [hk2] at this; cases this
        · exact ⟨ha, c, hc, fun q hq => hck q (hcc q hq)⟩) hpw hself hN h
      refine dinsOne_ok hC ho hci hD hs' hS hτ (fun j hj => hh i hir j (by rw [hdd]; exact hj)) hN fun ρ' a' w' h1 h2 h3 h4 => ?_
      have hsz' : (listed.setIfInBounds i true).size = ops.size := by simpa using hsz
      have hil : i < listed.size := by omega
      have hgetD : ∀ k (b : Bool), (listed.setIfInBounds i true).getD k b = if k = i then true else listed.getD k b := fun k b => by
        by_cases e : k = i
        · subst e; simp [Array.getD, hil]
        · rw [if_neg e]
          simp only [Array.getD_eq_getD_getElem?, Array.getElem?_setIfInBounds]
          rw [if_neg (by omega)]
      have hrem' : pre ++ post = (List.range ops.size).filter (fun k => !((listed.setIfInBounds i true).getD k true)) := by
        rw [← filter_ne_mid hsplit hsorted, hrem, List.filter_filter]
        refine List.filter_congr fun k hk => ?_
        rw [hgetD]
        by_cases e : k = i
        · subst e; simp
        · simp [e]
      refine ih (listed.setIfInBounds i true) (pre ++ post) s' ρ' a' w' hsz' hrem' ?_ ?_ ?_ h2 h3 ?_ ?_ ?_
      · rw [hsplit] at hlen; simp at hlen ⊢; omega
      · intro k hk x hx
        rw [hgetD] at hk ⊢
        by_cases e : k = i
        · subst e
          have := hlisted x hx
          split
          · rfl
          · exact this
        · rw [if_neg e] at hk
          have := hcl k hk x hx
          split
          · rfl
          · exact this
      · rw [List.map_append]; exact hrest
      · intro k hk j hj
        have hkr : k ∈ rem := by
          rw [hsplit]
          rcases List.mem_append.1 hk with h | h
          · exact List.mem_append_left _ h
          · exact List.mem_append_right _ (List.mem_cons_of_mem _ h)
        have hki : k ≠ i := by
          rcases List.mem_append.1 hk with h | h
          · have := hs4 k h i (by simp); omega
          · have := (List.pairwise_cons.1 hs3).1 k h; omega
        obtain ⟨hk1, _⟩ := (hmem k).1 hkr
        obtain ⟨_, dx, _, e1, e2, _⟩ := hget k hk1
        have hjl : j < nh := Nat.lt_of_lt_of_le (holes_lt (List.mem_of_getElem? e1) (by rw [← e2]; exact hj)) hnh
        rw [h1 (N + j) (by omega) fun j' hj' e => ?_]
        · exact hh k hkr j hj
        · have : j = j' := by omega
          subst this
          rw [e2] at hj
          rcases Nat.lt_or_gt_of_ne hki with hlt | hgt
          · exact (hd.pair k i dx d hlt e1 hdi).2.1 j hj hj'
          · exact (hd.pair i k d dx hgt hdi e1).2.1 j hj' hj
      · exact Nat.le_trans hN (dins_grow hC.grow hs').1
      · intro ρ2 a2 w2 k1 k2 k3 k4
        refine hK ρ2 a2 w2 (fun k hk => ?_) k2 k3 (k4.trans h4)
        rw [k1 k hk]
        exact h1 k (by omega) fun j _ e => by omega

theorem Sim.dead (hS : Sim P B0 w0 ρ H D w) (n : Nat) : Sim P B0 w0 ρ (H ++ List.replicate n .dead) D w := by
  have hget : ∀ (k : Nat) (b : Blk), (H ++ List.replicate n Blk.dead)[k]? = some b → b.live = true → H[k]? = some b := fun k b hb hl => by
    by_cases hk : k < H.length
    · rwa [List.getElem?_append_left hk] at hb
    · rw [List.getElem?_append_right (by omega), List.getElem?_replicate] at hb
      split at hb
      · cases hb; simp [Blk.live] at hl
      · cases hb
  exact ⟨fun k hk => hS.out k (by simp at hk; omega), hS.base, hS.low, fun k b hb hl => hS.blk k b (hget k b hb hl) hl,
    fun k k' b b' L L' hkk hb hbo hb' hbl hL hL' => hS.sep k k' b b' L L' hkk (hget k b hb (Blk.own_live hbo)) hbo (hget k' b' hb' hbl) hbl hL hL', hS.dfr⟩

theorem compDraw_ok {ops : Array Oper} {m : MC} (h : compDraw P nt ops.toList = some m) : ∃ dl cs, m = .dreg (holes dl) dl cs ∧ DrawOk ops dl cs nt P := by
  unfold compDraw at h
  cases hm : ops.toList.mapM (compIns P nt ops.toList) with
  | none => rw [hm] at h; cases h
  | some is =>
    rw [hm] at h
    simp only at h
    split at h
    case isFalse => cases h
    rename_i hback
    simp only [Option.map_eq_some_iff] at h
    obtain ⟨cs, hcs, rfl⟩ := h
    obtain ⟨m1, m2⟩ := mapM_get hm
    obtain ⟨s1, s2⟩ := allOk_spec hcs
    refine ⟨modes (befs ops.toList) is, cs, rfl, ?_, fun i o ho => ?_, fun d hdm => ?_, fun i j x y hij hx hy => ?_, fun i o ho e he hb => ?_⟩
    · rw [modes_length, m1]; simp
    · obtain ⟨x, hx, hc⟩ := m2 i o (by simpa using ho)
      have hlt : i < (modes (befs ops.toList) is).length := by rw [modes_length]; exact (List.getElem?_eq_some_iff.1 hx).1
      refine ⟨_, List.getElem?_eq_getElem hlt, ?_⟩
      have := modes_get (List.getElem?_eq_getElem hlt)
      rw [hx] at this
      rw [hc]; exact this
    · obtain ⟨i, hi, rfl⟩ := List.mem_iff_getElem.1 hdm
      have := s1 ((modes (befs ops.toList) is)[i], i) (List.mem_zipIdx_iff_getElem?.2 (by simp [hi]))
      exact nw_of this
    · have hxi := List.getElem?_eq_some_iff.1 hx
      have hyi := List.getElem?_eq_some_iff.1 hy
      rw [List.pairwise_iff_getElem] at s2
      obtain ⟨c, hc, hcc⟩ := s2 i j (by simpa using hxi.1) (by simpa using hyi.1) hij
      simp only [List.getElem_zipIdx, Nat.zero_add, hxi.2, hyi.2] at hc
      obtain ⟨p1, p2, p3⟩ := pairOk_spec hc
      exact ⟨p1, p2, p3.imp id fun h => ⟨h.1, c, h.2, hcc⟩⟩
    · have := List.all_eq_true.1 hback (o, i) (List.mem_zipIdx_iff_getElem?.2 (by simpa using ho))
      have := List.all_eq_true.1 this e (by simpa using he)
      simp only [hb, Bool.not_true, Bool.false_or, decide_eq_true_eq] at this
      exact this

theorem dreg_ok (hm : P.follows .mixedOrders = true) (hC : CallOk P call) {id : Nat} {ops : Array Oper} {m : MC} (hc : compDraw P nt ops.toList = some m) (hD : D.Nodup) {s s' : St} {fuel : Nat} {e : Ex} (h : exec call fuel m s = some (e, s'))
    (hS : Sim P B0 w0 ρ s.H D w) (hτ : RT ρ nt s.τ a.tmps) {Q : Exit → Act → World → Prop} {ro : Option Nat} {n : Nat} (hK : e = .normal → Kont P B0 w0 D nt ρ s.H.length a s' (Q .normal)) : (Code.region id ops true).wpIn (FW ro) n P Q a w := by
  obtain ⟨dl, cs, rfl, hd⟩ := compDraw_ok hc
  simp only [exec] at h
  cases hr : dinsL call s.H.length dl ⟨s.τ, s.H ++ List.replicate (holes dl) .dead⟩ with
  | none => rw [hr] at h; simp [afterDraw] at h
  | some sf =>
    rw [hr] at h
    simp only [afterDraw] at h
    split at h
    case isFalse => cases h
    rename_i hck
    cases h
    refine wpIn_region_any hm ?_
    have hS1 : Sim P B0 w0 ρ (s.H ++ List.replicate (holes dl) .dead) D { w with drawn := w.drawn + 1 } := (hS.dead _).heapEq rfl rfl rfl rfl
    have hdl : (List.range ops.size).map (dl.getD · dflt) = dl := by
      refine List.ext_getElem? fun i => ?_
      by_cases hi : i < ops.size
      · rw [List.getElem?_map, List.getElem?_range hi]
        simp [List.getD_eq_getElem?_getD, List.getElem?_eq_getElem (by rw [hd.len]; exact hi : i < dl.length)]
      · rw [List.getElem?_eq_none (by simp; omega), List.getElem?_eq_none (by rw [hd.len]; omega)]
    refine any_ok (N := s.H.length) (nh := holes dl) hC hd (Nat.le_refl _) hD (sf := s') (fun c hcm => List.all_eq_true.1 hck c hcm) ops.size (Array.replicate ops.size false) (List.range ops.size) ⟨s.τ, s.H ++ List.replicate (holes dl) .dead⟩ ρ a _ (by simp) ?_ (by simp) ?_ (by rw [hdl]; exact hr) hS1 hτ (fun i _ j _ => hS.out _ (by omega)) (by simp) (fun ρ' a' w' h1 h2 h3 h4 => hK rfl ρ' a' w' h1 h2 h3 h4)
    · symm
      refine List.filter_eq_self.2 fun i hi => ?_
      have : i < ops.size := by simpa using hi
      simp [Array.getD, this]
    · intro i hi
      exfalso
      simp only [Array.getD_eq_getD_getElem?, Array.getElem?_replicate] at hi
      split at hi <;> simp at hi
end Go.Ar
/- The code: what the abstract run of it comes to, the machine comes to. -/
set_option linter.unusedSimpArgs false
set_option linter.unusedVariables false
namespace Go.Ar
open Go.RowKit

/-! ### A scope, without goto -/
section
variable {P : Program} {b : Frame} {a : Act} {k : List Item} {cs : List Frame} {w : World} {Q : Exit → Act → World → Prop} {F : Fence} {n : Nat}
theorem stepR_scope {c : Code} : step P (lone (b.atR a (.code (.scope c) :: k)) cs w) = .next (lone (b.atR a (.code c :: .inScope c :: k)) cs w) :=
  step_lone_go (by simp [stepG, stepG.exec, Frame.atR])
theorem stepR_inScope {c : Code} : step P (lone (b.atR a (.inScope c :: k)) cs w) = .next (lone (b.atR a k) cs w) :=
  step_lone_go (by simp [stepG, stepG.exec, Frame.atR])
def noGoto (Q : Exit → Act → World → Prop) : Exit → Act → World → Prop
  | .goto _, _, _ => False
  | e, a, w => Q e a w
theorem wpIn_scope {c : Code} (h : c.wpIn F n P (noGoto Q) a w) : (Code.scope c).wpIn F n P Q a w := by
  intro b k cs hro hb hr
  have h0 : (lone (b.atR a (.code (.scope c) :: k)) cs w).fenced P F := fenced_calm hb hr rfl
  obtain ⟨e, a₁, w₁, hq, harr⟩ := h b (.inScope c :: k) cs hro hb hr
  cases e with
  | normal => exact ⟨.normal, a₁, w₁, hq, .head h0 stepR_scope (StepsIn.trans harr (.one (fenced_calm hb hr rfl) stepR_inScope))⟩
  | exit id =>
    have hx : exitTo id (.inScope c :: k) = exitTo id k := by simp [exitTo]
    exact ⟨.exit id, a₁, w₁, hq, fun k' hk => .head h0 stepR_scope (harr.1 k' (by rw [hx]; exact hk)),
      fun hr' hk => let ⟨k₁, h1, h2⟩ := harr.2 hr' (by rw [hx]; exact hk); ⟨k₁, h1, .head h0 stepR_scope h2⟩⟩
  | goto l => exact hq.elim
  | ret => exact ⟨_, a₁, w₁, hq, .of_steps (.one h0 stepR_scope) harr⟩
  | panic ch => exact ⟨_, a₁, w₁, hq, .of_steps (.one h0 stepR_scope) harr⟩
  | outgrown => exact ⟨_, a₁, w₁, hq, .of_steps (.one h0 stepR_scope) harr⟩
end

/-! ### The code -/
def Ex.toE : Ex → Exit
  | .normal => .normal
  | .exit i => .exit i
  | .ret => .ret
def mark (r : Nat) : Deferred := { target := .collected r, args := #[] }

variable {P : Program} {B0 : Nat} {w0 : World} {ρ : Rho} {H : Heap} {D : List Nat} {w : World} {nt : Nat} {τ τ' : Nat → V} {a : Act} {call : CallF} {N nh : Nat}

/-- Where the machine stands behind a piece of code. -/
def KonC (P : Program) (B0 : Nat) (w0 : World) (D : List Nat) (nt : Nat) (ρ : Rho) (n : Nat) (D1 : List Nat) (s' : St) (nr : Bool) (K : Act → World → Prop) : Prop :=
  ∀ (ρ' : Rho) (D1' : List Nat) (a' : Act) (w' : World), Agree n ρ ρ' → Sim P B0 w0 ρ' s'.H (D1' ++ D) w' → RT ρ' nt s'.τ a'.tmps → a'.defers = D1'.map mark → (D1' ++ D).Nodup → (nr = true → D1' = D1) → K a' w'

theorem KonC.of {s' : St} {K : Act → World → Prop} {D1 : List Nat} {n : Nat} {nr : Bool} (h : KonC P B0 w0 D nt ρ n D1 s' nr K) (hD : (D1 ++ D).Nodup) (hdef : a.defers = D1.map mark) : Kont P B0 w0 (D1 ++ D) nt ρ n a s' K :=
  fun ρ' a' w' h1 h2 h3 h4 => h ρ' D1 a' w' h1 h2 h3 (h4.trans hdef) hD (fun _ => rfl)

theorem dfr_alloc (hS : Sim P B0 w0 ρ H D w) : Sim P B0 w0 ρ H (w.heap.size :: D) (w.alloc (.deferred (some []))) := by
  refine ⟨hS.out, hS.base, hS.low.alloc hS.sizeLe _, fun k b hb hl => ?_, hS.sep, fun r hr => ?_⟩
  · obtain ⟨L, h1, h2⟩ := hS.blk k b hb hl
    exact ⟨L, h1, h2.heap (Below.heap_alloc w _ _ (h2.lt hl))⟩
  · rcases List.mem_cons.1 hr with rfl | hr
    · exact ⟨hS.sizeLe, World.alloc_heap_new w _⟩
    · obtain ⟨h1, h2⟩ := hS.dfr r hr
      exact ⟨h1, (Below.heap_alloc w _ r (Array.getElem?_eq_some_iff.1 h2).1).trans h2⟩
theorem dfr_fresh (hS : Sim P B0 w0 ρ H D w) : w.heap.size ∉ D := fun h => by
  have := (Array.getElem?_eq_some_iff.1 (hS.dfr _ h).2).1
  omega

/-- The loop's record turned. -/
theorem Sim.putLoop (hS : Sim P B0 w0 ρ H D w) {k : Nat} {b b' : Blk} {L : Loc} (hk : H[k]? = some b) (hbo : b.own = true) (hL : ρ k = some L) {lo lo' : Loop} (hw : w.heap[L.blk]? = some (.loop lo))
    (hb' : b'.live = true → BlkOk P B0 ρ L (w.putObj L.blk (.loop lo')) b') : Sim P B0 w0 ρ (H.set k b') D (w.putObj L.blk (.loop lo')) :=
  hS.mod hk hbo hL rfl rfl rfl World.putObj_size (fun j hj => World.putObj_heap_other hj) hb'

theorem Sim.loop (hS : Sim P B0 w0 ρ H D w) {k : Nat} {τ : Nat → V} {ps : List Nat} {asg body : MC} {st : LS} (hk : H[k]? = some (.lp τ ps asg body st)) {L : Loc} (hL : ρ k = some L) :
    ∃ (lo : Loop) (nt : Nat), w.heap[L.blk]? = some (.loop lo) ∧ B0 ≤ L.blk ∧ RT ρ nt τ lo.tmps ∧ lo.params.toList = ps ∧ (∀ p ∈ ps, p < nt) ∧ comp P nt lo.assign = some asg ∧ comp P nt lo.body = some body ∧ noR asg = true ∧ noR body = true ∧ LSOk st lo := by
  obtain ⟨L', h1, h2⟩ := hS.blk k _ hk rfl
  rw [hL] at h1; cases h1
  exact h2

set_option maxHeartbeats 1000000 in
theorem code_ok (hm : P.follows .mixedOrders = true) (hC : CallOk P call) (fuel : Nat) {n : Nat} : ∀ (c : Code) (m : MC), comp P nt c = some m → ∀ (ro : Option Nat), (ro = none ∨ noR m = true) →
    ∀ (s : St) (e : Ex) (s' : St), exec call fuel m s = some (e, s') → ∀ (ρ : Rho) (D1 : List Nat) (a : Act) (w : World), (D1 ++ D).Nodup → a.defers = D1.map mark → Sim P B0 w0 ρ s.H (D1 ++ D) w → RT ρ nt s.τ a.tmps →
    ∀ (Q : Exit → Act → World → Prop), KonC P B0 w0 D nt ρ s.H.length D1 s' (noR m) (Q e.toE) → c.wpIn (FW ro) n P Q a w := by
  intro c
  induction c with
  | skip =>
    intro m hcm ro hro s e s' h ρ D1 a w hD hdef hS hτ Q hK
    cases hcm; cases h
    exact wpIn_skip (hK ρ D1 a w (Agree.refl _ _) hS hτ hdef hD (fun _ => rfl))
  | label l =>
    intro m hcm ro hro s e s' h ρ D1 a w hD hdef hS hτ Q hK
    cases hcm; cases h
    exact wpIn_label (hK ρ D1 a w (Agree.refl _ _) hS hτ hdef hD (fun _ => rfl))
  | exit id =>
    intro m hcm ro hro s e s' h ρ D1 a w hD hdef hS hτ Q hK
    cases hcm; cases h
    exact wpIn_exit (hK ρ D1 a w (Agree.refl _ _) hS hτ hdef hD (fun _ => rfl))
  | ret =>
    intro m hcm ro hro s e s' h ρ D1 a w hD hdef hS hτ Q hK
    cases hcm; cases h
    exact wpIn_ret (hK ρ D1 a w (Agree.refl _ _) hS hτ hdef hD (fun _ => rfl))
  | goto l => intro m hcm; cases hcm
  | refuse y => intro m hcm; cases hcm
  | region id ops draw =>
    intro m hcm ro hro s e s' h ρ D1 a w hD hdef hS hτ Q hK
    simp only [comp] at hcm
    cases draw with
    | true =>
      simp only [if_true] at hcm
      refine dreg_ok hm hC hcm hD h hS hτ fun he => ?_
      subst he
      exact hK.of hD hdef
    | false =>
      simp only [Bool.false_eq_true, if_false, Option.map_eq_some_iff] at hcm
      obtain ⟨is, his, rfl⟩ := hcm
      simp only [exec, Option.map_eq_some_iff] at h
      obtain ⟨s1, h1, h⟩ := h
      cases h
      exact reg_ok hC his hD h1 hS hτ (hK.of hD hdef)
  | seq x y ihx ihy =>
    intro m hcm ro hro s e s' h ρ D1 a w hD hdef hS hτ Q hK
    simp only [comp] at hcm
    split at hcm
    case h_2 => cases hcm
    rename_i mx my hx hy
    cases hcm
    have hrox : ro = none ∨ noR mx = true := hro.imp id fun h => by simp [noR] at h; exact h.1
    have hroy : ro = none ∨ noR my = true := hro.imp id fun h => by simp [noR] at h; exact h.2
    refine wpIn_seq ?_
    rcases andThen_iff.1 h with ⟨s1, h1, h2⟩ | ⟨h1, hne⟩
    · refine ihx mx hx ro hrox s .normal s1 h1 ρ D1 a w hD hdef hS hτ _ fun ρ1 D2 a1 w1 k1 k2 k3 k4 k5 k6 => ?_
      refine ihy my hy ro hroy s1 e s' h2 ρ1 D2 a1 w1 k5 k4 k2 k3 Q fun ρ2 D3 a2 w2 q1 q2 q3 q4 q5 q6 => ?_
      refine hK ρ2 D3 a2 w2 (k1.trans q1 (exec_grow hC.grow _ _ _ _ _ h1).1) q2 q3 q4 q5 fun hn => ?_
      simp only [noR, Bool.and_eq_true] at hn
      exact (q6 hn.2).trans (k6 hn.1)
    · refine ihx mx hx ro hrox s e s' h1 ρ D1 a w hD hdef hS hτ _ fun ρ1 D2 a1 w1 k1 k2 k3 k4 k5 k6 => ?_
      have := hK ρ1 D2 a1 w1 k1 k2 k3 k4 k5 (fun hn => by simp only [noR, Bool.and_eq_true] at hn; exact k6 hn.1)
      cases e with
      | normal => exact absurd rfl hne
      | exit i => exact this
      | ret => exact this
  | cond q x y ihx ihy =>
    intro m hcm ro hro s e s' h ρ D1 a w hD hdef hS hτ Q hK
    simp only [comp] at hcm
    split at hcm
    case h_2 => cases hcm
    rename_i mx my hx hy
    cases hcm
    have hrox : ro = none ∨ noR mx = true := hro.imp id fun h => by simp [noR] at h; exact h.1
    have hroy : ro = none ∨ noR my = true := hro.imp id fun h => by simp [noR] at h; exact h.2
    simp only [exec] at h
    split at h
    case h_2 => cases h
    rename_i t ht
    have hq := ev_ok hτ q
    rw [ht] at hq
    cases t with
    | true =>
      refine wpIn_cond_true hq.bool_inv (ihx mx hx ro hrox s e s' h ρ D1 a w hD hdef hS hτ Q fun ρ1 D2 a1 w1 k1 k2 k3 k4 k5 k6 => hK ρ1 D2 a1 w1 k1 k2 k3 k4 k5 fun hn => ?_)
      simp only [noR, Bool.and_eq_true] at hn
      exact k6 hn.1
    | false =>
      refine wpIn_cond_false hq.bool_inv (ihy my hy ro hroy s e s' h ρ D1 a w hD hdef hS hτ Q fun ρ1 D2 a1 w1 k1 k2 k3 k4 k5 k6 => hK ρ1 D2 a1 w1 k1 k2 k3 k4 k5 fun hn => ?_)
      simp only [noR, Bool.and_eq_true] at hn
      exact k6 hn.2
  | block id x ih =>
    intro m hcm ro hro s e s' h ρ D1 a w hD hdef hS hτ Q hK
    simp only [comp, Option.map_eq_some_iff] at hcm
    obtain ⟨mx, hx, rfl⟩ := hcm
    simp only [exec] at h
    refine wpIn_block ?_
    cases hr : exec call fuel mx s with
    | none => rw [hr] at h; simp [unblk] at h
    | some r =>
      obtain ⟨e1, s1⟩ := r
      rw [hr] at h
      refine ih mx hx ro hro s e1 s1 hr ρ D1 a w hD hdef hS hτ _ fun ρ1 D2 a1 w1 k1 k2 k3 k4 k5 k6 => ?_
      cases e1 with
      | normal => simp only [unblk] at h; cases h; exact hK ρ1 D2 a1 w1 k1 k2 k3 k4 k5 k6
      | ret => simp only [unblk] at h; cases h; exact hK ρ1 D2 a1 w1 k1 k2 k3 k4 k5 k6
      | exit i =>
        simp only [unblk] at h
        simp only [Ex.toE, Exit.inBlock]
        split at h
        · rename_i hi; cases h; rw [if_pos hi]; exact hK ρ1 D2 a1 w1 k1 k2 k3 k4 k5 k6
        · rename_i hi; cases h; rw [if_neg hi]; exact hK ρ1 D2 a1 w1 k1 k2 k3 k4 k5 k6
  | loop x ih =>
    intro m hcm ro hro s e s' h ρ D1 a w hD hdef hS hτ Q hK
    simp only [comp, Option.map_eq_some_iff] at hcm
    obtain ⟨mx, hx, rfl⟩ := hcm
    refine wpIn_loop_rounds fuel ?_
    have key : ∀ (k : Nat) (s : St), iter k (exec call fuel mx) s = some (e, s') → ∀ (ρ : Rho) (D1 : List Nat) (a : Act) (w : World), (D1 ++ D).Nodup → a.defers = D1.map mark → Sim P B0 w0 ρ s.H (D1 ++ D) w → RT ρ nt s.τ a.tmps →
        KonC P B0 w0 D nt ρ s.H.length D1 s' (noR mx) (Q e.toE) → Code.roundsIn (FW ro) n P x Q k a w := by
      intro k
      induction k with
      | zero => intro s h; simp [iter] at h
      | succ k ihk =>
        intro s h ρ D1 a w hD hdef hS hτ hK
        rw [roundsIn_succ]
        rcases andThen_iff.1 h with ⟨s1, h1, h2⟩ | ⟨h1, hne⟩
        · refine ih mx hx ro hro s .normal s1 h1 ρ D1 a w hD hdef hS hτ _ fun ρ1 D2 a1 w1 k1 k2 k3 k4 k5 k6 => ?_
          refine ihk s1 h2 ρ1 D2 a1 w1 k5 k4 k2 k3 fun ρ2 D3 a2 w2 q1 q2 q3 q4 q5 q6 => ?_
          exact hK ρ2 D3 a2 w2 (k1.trans q1 (exec_grow hC.grow _ _ _ _ _ h1).1) q2 q3 q4 q5 fun hn => (q6 hn).trans (k6 hn)
        · refine ih mx hx ro hro s e s' h1 ρ D1 a w hD hdef hS hτ _ fun ρ1 D2 a1 w1 k1 k2 k3 k4 k5 k6 => ?_
          have := hK ρ1 D2 a1 w1 k1 k2 k3 k4 k5 k6
          cases e with
          | normal => exact absurd rfl hne
          | exit i => exact this
          | ret => exact this
    exact key fuel s h ρ D1 a w hD hdef hS hτ hK
  | scope x ih =>
    intro m hcm ro hro s e s' h ρ D1 a w hD hdef hS hτ Q hK
    refine wpIn_scope (ih m hcm ro hro s e s' h ρ D1 a w hD hdef hS hτ _ fun ρ1 D2 a1 w1 k1 k2 k3 k4 k5 k6 => ?_)
    have := hK ρ1 D2 a1 w1 k1 k2 k3 k4 k5 k6
    cases e <;> exact this
  | rangeFunc f ps asg body _ _ =>
    intro m hcm ro hro s e s' h ρ D1 a w hD hdef hS hτ Q hK
    simp only [comp] at hcm
    split at hcm
    case h_2 => cases hcm
    rename_i masg mbody hasg hbody
    split at hcm
    case isFalse => cases hcm
    rename_i hc
    cases hcm
    simp only [Bool.and_eq_true] at hc
    obtain ⟨⟨hc1, hc2⟩, hc3⟩ := hc
    have hro : ro = none := hro.resolve_right (by simp [noR])
    subst hro
    simp only [exec] at h
    split at h
    case h_2 => cases h
    rename_i t fi ca ht
    cases hr : call t (fi ++ [.yld s.H.length] ++ ca) (s.H ++ [.lp s.τ ps.toList masg mbody .ready]) with
    | none => rw [hr] at h; simp [afterRange] at h
    | some r =>
      obtain ⟨v, H'⟩ := r
      rw [hr] at h
      have hf := ev_ok hτ f
      cases hev : ev s.τ (cX f) <;> rw [hev] at ht <;> simp only [tgt] at ht <;> (try (cases ht; done))
      rename_i g fi' ca'
      cases ht
      rw [hev] at hf
      generalize hfv : a.eval f = fv at hf
      cases hf with
      | @fn _ _ _ a' b' ha hb h1 h2 =>
      refine wpIn_rangeFunc fun fid _ => ?_
      have hS1 := dfr_alloc hS
      obtain ⟨W, hW⟩ : ∃ W, W = ((w.alloc (.deferred (some []))).alloc (.loop { state := .ready, pending := none, fn := fid, tmps := a.tmps, params := ps, assign := asg, body := body, defers := w.heap.size })) := ⟨_, rfl⟩
      have hlo : Sim P B0 w0 (ext ρ s.H.length (newLoc (w.alloc (.deferred (some []))))) (s.H ++ [.lp s.τ ps.toList masg mbody .ready]) (w.heap.size :: (D1 ++ D))
          W := by
        subst hW
        refine hS1.new _ _ _ rfl fun _ => ⟨_, nt, World.alloc_heap_new _ _, hS1.sizeLe, hτ.mono (le_ext (hS.out _ (Nat.le_refl _)) _), rfl, fun p hp => ?_, hasg, hbody, hc1, hc2, rfl, rfl⟩
        have := List.all_eq_true.1 hc3 p hp
        simpa using this
      obtain ⟨hent, hcall⟩ := hC.f hr
      have hent' : ∀ (args : Array Value) (w : World), (callFunc g args).run P w = .ok (.enter g args) w := hent
      have hyl : R (ext ρ s.H.length (newLoc (w.alloc (.deferred (some []))))) (.yld s.H.length) (.func (.yield (w.heap.size + 1)) #[] #[]) := by
        have := @R.yld (ext ρ s.H.length (newLoc (w.alloc (.deferred (some []))))) s.H.length (newLoc (w.alloc (.deferred (some [])))) (by simp [ext])
        simpa [newLoc, World.size_alloc] using this
      have hle : RLe ρ (ext ρ s.H.length (newLoc (w.alloc (.deferred (some []))))) := le_ext (hS.out _ (Nat.le_refl _)) _
      have hRL : RL (ext ρ s.H.length (newLoc (w.alloc (.deferred (some []))))) (fi ++ [.yld s.H.length] ++ ca) (a' ++ #[Value.func (.yield (w.heap.size + 1)) #[] #[]] ++ b').toList := by
        have := RL.append (RL.append (RL.mono hle (l := fi) (l' := a'.toList) ⟨ha, h1⟩) (RL.cons hyl (RL.nil _))) (RL.mono hle (l := ca) (l' := b'.toList) ⟨hb, h2⟩)
        simpa using this
      have hD' : (w.heap.size :: (D1 ++ D)).Nodup := List.nodup_cons.2 ⟨dfr_fresh hS, hD⟩
      refine ⟨w.heap.size + 1, [mark w.heap.size], W, { target := .fn (.func g) b', args := a' ++ #[Value.func (.yield (w.heap.size + 1)) #[] #[]] }, W, g, a' ++ #[Value.func (.yield (w.heap.size + 1)) #[] #[]] ++ b', W, by rw [hW]; exact run_enterLoop_outer _ _ _ _ _, ?_, fun _ _ => trivial, ?_, fun h => by simp at h, (hcall hD' hlo hRL none _).mono fun en w3 hp => ?_⟩
      · have hce : (#[Operand.const (.func (.yield (w.heap.size + 1)) #[] #[])]).map a.eval = #[Value.func (.yield (w.heap.size + 1)) #[] #[]] := by simp [Act.eval]
        simp only [resolve, rangeCall, hfv, Deferred.ofValue, hce]
        rfl
      · simp only [invoke]
        exact hent' _ _
      · obtain ⟨v', rfl, ρ', hR, hag, hS3⟩ := hp
        have hN : ρ' s.H.length = some (newLoc (w.alloc (.deferred (some [])))) := by
          rw [hag s.H.length (by simp)]; simp [ext]
        have hLb : (newLoc (w.alloc (.deferred (some [])))).blk = w.heap.size + 1 := by simp [newLoc, World.size_alloc]
        have hag2 : Agree s.H.length ρ ρ' := fun k hk => by
          rw [hag k (by simp; omega)]
          unfold ext; rw [if_neg (by omega)]
        have hfin : ∀ {τ1 : Nat → V} {ps1 : List Nat} {asg1 body1 : MC} {st : LS}, H'[s.H.length]? = some (.lp τ1 ps1 asg1 body1 st) → st ≠ .busy → ∃ (lo : Loop) (W4 : World), LSOk st lo ∧
            (Instr.endLoop (w.heap.size + 1)).run P w3 = .ok lo.pending W4 ∧
            Sim P B0 w0 ρ' (H'.set s.H.length .dead) ((w.heap.size :: D1) ++ D) W4 := by
          intro τ1 ps1 asg1 body1 st hk hst
          obtain ⟨lo, nt1, l1, l2, l3, l4, l5, l6, l7, l8, l9, l10⟩ := hS3.loop hk hN
          rw [hLb] at l1
          refine ⟨lo, _, l10, run_endLoop l1 ?_, ?_⟩
          · cases st with
            | ready => have := l10.1; rw [this]; simp
            | busy => exact absurd rfl hst
            | done e => have := l10.1; rw [this]; simp
          · have := hS3.putLoop (b' := .dead) hk rfl hN (lo := lo) (lo' := { lo with state := .exhausted }) (by rw [hLb]; exact l1) (fun h => by simp [Blk.live] at h)
            rw [hLb] at this
            exact this
        have hK' : ∀ (e1 : Ex) (w4 : World), e1 = e → s' = ⟨s.τ, H'.set s.H.length .dead⟩ → Sim P B0 w0 ρ' (H'.set s.H.length .dead) ((w.heap.size :: D1) ++ D) w4 → Q e1.toE { a with defers := [mark w.heap.size] ++ a.defers } w4 := by
          intro e1 w4 he hs4 hS4
          subst he; subst hs4
          exact hK ρ' (w.heap.size :: D1) _ w4 hag2 hS4 (hτ.mono (hS.le hag2)) (by simp [hdef]) hD' (fun h => by simp [noR] at h)
        simp only [afterRange] at h
        split at h
        · rename_i hk
          cases h
          obtain ⟨lo, W4, l1, l2, l3⟩ := hfin hk (by simp)
          refine ⟨_, _, l2, ?_⟩
          rw [l1.2]
          exact hK' .normal _ rfl rfl l3
        · rename_i e1 hk
          cases h
          obtain ⟨lo, W4, l1, l2, l3⟩ := hfin hk (by simp)
          refine ⟨_, _, l2, ?_⟩
          obtain ⟨l4, l5, l6⟩ := l1
          rw [l5]
          cases e with
          | normal => exact absurd rfl l6
          | exit i => exact wpIn_exit (hK' (.exit i) _ rfl rfl l3)
          | ret => exact wpIn_ret (hK' .ret _ rfl rfl l3)
        · cases h
end Go.Ar
/- Calls: every call that the abstract run answers, the machine answers. -/
set_option linter.unusedSimpArgs false
set_option linter.unusedVariables false
namespace Go.Ar
open Go.RowKit

variable {P : Program} {B0 : Nat} {w0 : World} {ρ : Rho} {H : Heap} {D : List Nat} {w : World} {nt : Nat} {τ τ' : Nat → V} {a : Act} {call : CallF} {N nh : Nat}

/-! ### The results -/
def resOf (tmps : Array Value) : ResultVar → Sem Value
  | .tmp t => pure (tmps.getD t undef)
  | .cell a t => do loadVar t (← asAddr (tmps.getD a undef))
theorem res1_ok (hS : Sim P B0 w0 ρ H D w) {tmps : Array Value} (hτ : RT ρ nt τ tmps) {rv : ResultVar} {r : RV} (hc : compRV P rv = some r) {v : V} (h : res1 τ H r = some v) :
    ∃ v', (resOf tmps rv).run P w = .ok v' w ∧ R ρ v v' := by
  cases rv with
  | tmp t => cases hc; cases h; exact ⟨_, rfl, hτ.2 t⟩
  | cell c t =>
    simp only [compRV] at hc
    split at hc
    case h_2 => cases hc
    rename_i n g hn hg
    cases hc
    simp only [res1] at h
    split at h
    case h_2 => cases h
    rename_i k o hk
    have hx := hτ.2 c
    rw [hk] at hx
    obtain ⟨v', h1, h2⟩ := op_load hS hn hg hx h
    refine ⟨v', ?_, h2⟩
    simp only [resOf]
    generalize tmps.getD c undef = x at h1 hx ⊢
    cases hx with
    | ptr hL =>
      simp only [Instr.loadAt, Instr.sureAddr, asAddr, pure_bind, bind_assoc] at h1 ⊢
      exact h1

theorem resL_ok (hS : Sim P B0 w0 ρ H D w) {tmps : Array Value} (hτ : RT ρ nt τ tmps) : ∀ (rvs : List ResultVar) (rs : List RV) (vs : List V), rvs.mapM (compRV P) = some rs → resL τ H rs = some vs →
    ∃ vs', (rvs.mapM (resOf tmps)).run P w = .ok vs' w ∧ RL ρ vs vs'
  | [], rs, vs, h1, h2 => by
    simp at h1; subst h1
    cases h2
    exact ⟨[], by simp, RL.nil _⟩
  | rv :: rvs, rs, vs, h1, h2 => by
    simp only [List.mapM_cons] at h1
    cases hc : compRV P rv with
    | none => simp [hc] at h1
    | some r =>
      cases hl : rvs.mapM (compRV P) with
      | none => simp [hc, hl] at h1
      | some rs1 =>
        simp [hc, hl] at h1
        subst h1
        simp only [resL] at h2
        split at h2
        case h_2 => cases h2
        rename_i v vs1 e1 e2
        cases h2
        obtain ⟨v', q1, q2⟩ := res1_ok hS hτ hc e1
        obtain ⟨vs', q3, q4⟩ := resL_ok hS hτ rvs rs1 vs1 hl e2
        refine ⟨v' :: vs', ?_, RL.cons q2 q4⟩
        rw [List.mapM_cons, Sem.run_bind, q1, Result.andThen_ok, Sem.run_bind, q3, Result.andThen_ok]
        rfl

theorem results_ok (hS : Sim P B0 w0 ρ H D w) {tmps : Array Value} (hτ : RT ρ nt τ tmps) {fn : Func} {rs : List RV} {vs : List V} (h1 : fn.results.toList.mapM (compRV P) = some rs) (h2 : resL τ H rs = some vs) :
    ∃ v', (results fn tmps).run P w = .ok v' w ∧ R ρ (pack vs) v' := by
  obtain ⟨vs', h3, h4⟩ := resL_ok hS hτ _ _ _ h1 h2
  have hres : results fn tmps = (do let vs ← fn.results.mapM (resOf tmps); pure (if h : vs.size = 1 then vs[0] else .tuple vs)) := rfl
  rw [hres, Array.mapM_eq_mapM_toList, Sem.run_bind]
  have h5 : (List.toArray <$> fn.results.toList.mapM (resOf tmps)).run P w = .ok vs'.toArray w := by
    rw [map_eq_pure_bind, Sem.run_bind, h3]; rfl
  rw [h5, Result.andThen_ok]
  refine ⟨_, rfl, ?_⟩
  cases vs with
  | nil =>
    have : vs' = [] := List.eq_nil_of_length_eq_zero (by rw [← h4.1]; rfl)
    subst this
    exact R.ofTup h4
  | cons v vs =>
    obtain ⟨v', r, rfl, h6, h7⟩ := h4.uncons
    cases vs with
    | nil =>
      have : r = [] := List.eq_nil_of_length_eq_zero (by rw [← h7.1]; rfl)
      subst this
      simpa [pack] using h6
    | cons u us =>
      obtain ⟨u', r', rfl, _, _⟩ := h7.uncons
      simp only [pack]
      rw [dif_neg (by simp)]
      exact R.ofTup (by simpa using h4)

/-! ### The end of a function -/
theorem dfr_take {r : Nat} (hS : Sim P B0 w0 ρ H (r :: D) w) (hD : (r :: D).Nodup) : (Instr.takeDeferred r).run P w = .ok [] (w.putObj r (.deferred none)) ∧ Sim P B0 w0 ρ H D (w.putObj r (.deferred none)) := by
  obtain ⟨h1, h2⟩ := hS.dfr r (by simp)
  refine ⟨run_takeDeferred h2, hS.out, hS.base, ⟨hS.low.os, hS.low.tape, hS.low.output, by rw [World.putObj_size]; exact hS.low.size, fun k hk => (World.putObj_heap_other (by omega)).trans (hS.low.block k hk)⟩, fun k b hb hl => ?_, hS.sep, fun q hq => ?_⟩
  · obtain ⟨L, h3, h4⟩ := hS.blk k b hb hl
    exact ⟨L, h3, h4.heap (World.putObj_heap_other (fun e => h4.notDef hl _ (by rw [e]; exact h2)))⟩
  · obtain ⟨h3, h4⟩ := hS.dfr q (by simp [hq])
    refine ⟨h3, (World.putObj_heap_other ?_).trans h4⟩
    intro e; subst e
    exact (List.nodup_cons.1 hD).1 hq

theorem leaves_ok {fn : Func} {tmps : Array Value} {rs : List RV} {vs : List V} (h1 : fn.results.toList.mapM (compRV P) = some rs) (h2 : resL τ H rs = some vs) (hτ : RT ρ nt τ tmps) {ρ0 : Rho} {H0 : Heap} (ha : Agree H0.length ρ0 ρ) {ro : Option Nat} {n : Nat} :
    ∀ (D1 : List Nat) (w : World), Sim P B0 w0 ρ H (D1 ++ D) w → (D1 ++ D).Nodup → LeavesInM (FW ro) n P fn tmps (CPost P B0 w0 D ρ0 H0 (pack vs) H) (D1.map mark) .returning w
  | [], w, hS, _ => by
    obtain ⟨v', h3, h4⟩ := results_ok hS hτ h1 h2
    exact ⟨v', h3, v', rfl, ρ, h4, ha, hS⟩
  | r :: D1, w, hS, hD => by
    obtain ⟨h3, h4⟩ := dfr_take hS hD
    refine ⟨by simp, .inl ⟨r, _, rfl, h3, leaves_ok h1 h2 hτ ha D1 _ h4 (List.nodup_cons.1 hD).2⟩⟩

/-! ### What the functions are -/
structure EnvOk (P : Program) (E : Env) : Prop where
  c : ∀ g fc, E.C g = some fc → ∃ fn, P.funcs[g]? = some fn ∧ compF P fn = some fc ∧ (fn.name == "runtime.NumGoroutine") = false
  s : ∀ g h args H v H', E.S g = some h → h args H = some (v, H') → Go.Proofs.Enters P g ∧ Grow H H' ∧
    ∀ {B0 : Nat} {w0 : World} {ρ : Rho} {D : List Nat} {w : World} {args' : Array Value}, D.Nodup → Sim P B0 w0 ρ H D w → RL ρ args args'.toList →
      ∀ (ro : Option Nat) (n : Nat), CallsIn (FW ro) n P g args' w (CPost P B0 w0 D ρ H v H')

theorem compF_of {fn : Func} {fc : FC} (h : compF P fn = some fc) : ∃ c, fn.body = some c ∧ comp P fn.ntmps c = some fc.body ∧ fn.results.toList.mapM (compRV P) = some fc.res ∧ fc.nargs ≤ fn.ntmps := by
  unfold compF at h
  split at h
  case h_2 => cases h
  rename_i c hb
  split at h
  case h_2 => cases h
  rename_i m rs hm hrs
  split at h
  · rename_i hle; cases h; exact ⟨c, hb, hm, hrs, hle⟩
  · cases h

theorem args_RT {args : List V} {args' : Array Value} (h : RL ρ args args'.toList) {nt : Nat} (hn : args.length ≤ nt) : RT ρ nt (args0 args) (args' ++ Array.replicate (nt - args'.size) undef) := by
  have hl := h.1
  simp only [Array.length_toList] at hl
  refine ⟨by simp; omega, fun t => ?_⟩
  unfold args0
  by_cases ht : t < args.length
  · have h1 : args[t]? = some args[t] := List.getElem?_eq_getElem ht
    obtain ⟨v', h2, h3⟩ := h.get h1
    rw [h1]
    have : (args' ++ Array.replicate (nt - args'.size) undef).getD t undef = v' := by
      simp only [Array.getElem?_toList] at h2
      rw [Array.getD_eq_getD_getElem?, Array.getElem?_append_left (by omega), h2]; rfl
    rw [this]; exact h3
  · rw [List.getElem?_eq_none (by omega)]
    have : (args' ++ Array.replicate (nt - args'.size) undef).getD t undef = undef := by
      rw [Array.getD_eq_getD_getElem?, Array.getElem?_append_right (by omega), Array.getElem?_replicate]
      split <;> rfl
    rw [this]; exact R.undef _ undef_bool

theorem setps_RT : ∀ {ps : List Nat} {args : List V} {args' : List Value} {τ : Nat → V} {tmps : Array Value}, RT ρ nt τ tmps → RL ρ args args' → (∀ p ∈ ps, p < nt) → RT ρ nt (setps τ ps args) ((ps.zip args').foldl (fun tmps p => tmps.setIfInBounds p.1 p.2) tmps)
  | [], args, args', τ, tmps, hτ, _, _ => by simpa [setps] using hτ
  | p :: ps, [], args', τ, tmps, hτ, hR, _ => by
    have : args' = [] := List.eq_nil_of_length_eq_zero (by rw [← hR.1]; rfl)
    subst this
    simpa [setps] using hτ
  | p :: ps, v :: args, args', τ, tmps, hτ, hR, hp => by
    obtain ⟨v', r, rfl, h1, h2⟩ := hR.uncons
    simp only [setps, List.zip_cons_cons, List.foldl_cons]
    exact setps_RT (hτ.set (hp p (by simp)) h1) h2 fun q hq => hp q (by simp [hq])

set_option maxHeartbeats 1000000 in
theorem callN_ok (hm : P.follows .mixedOrders = true) {E : Env} (hE : EnvOk P E) : ∀ n, CallOk P (callN E n)
  | 0 => ⟨fun h => by simp [callN] at h, fun h => by simp [callN] at h, fun t _ _ _ _ h => by cases t <;> simp [callN] at h⟩
  | n + 1 => by
    have ih := callN_ok hm hE n
    refine ⟨?_, ?_, callN_grow (fun g h args H v H' h1 h2 => (hE.s g h args H v H' h1 h2).2.1) (n + 1)⟩
    · intro g args H v H' h
      simp only [callN] at h
      split at h
      · rename_i hh hs
        obtain ⟨h1, _, h3⟩ := hE.s g hh args H v H' hs h
        exact ⟨h1, fun hD hS hR ro n => h3 hD hS hR ro n⟩
      · split at h
        case h_2 => cases h
        rename_i fc hfc
        split at h
        case isFalse => cases h
        rename_i hlen
        obtain ⟨fn, hf, hcf, hname⟩ := hE.c g fc hfc
        obtain ⟨c, hb, hc, hres, hle⟩ := compF_of hcf
        refine ⟨Go.Proofs.enters_of hf hname hb, fun {B0 w0 ρ D w args'} hD hS hR ro k => ?_⟩
        cases hr : exec (callN E n) n fc.body ⟨args0 args, H⟩ with
        | none => rw [hr] at h; simp [finish] at h
        | some r =>
          obtain ⟨e, s⟩ := r
          rw [hr] at h
          have hcall : CallsIn (FW none) k P g args' w (CPost P B0 w0 D ρ H v H') := by
            refine callsIn_of_wp_marks hf hb trivial ?_
            refine code_ok hm ih n c fc.body hc none (.inl rfl) ⟨args0 args, H⟩ e s hr ρ [] _ w (by simpa using hD) rfl hS (args_RT hR (by omega)) _ fun ρ1 D2 a1 w1 k1 k2 k3 k4 k5 _ => ?_
            cases e with
            | exit i => simp [finish] at h
            | normal =>
              simp only [finish, Option.map_eq_some_iff] at h
              obtain ⟨vs, h1, h2⟩ := h
              cases h2
              simp only [Ex.toE, bodyPostM]
              rw [k4]
              exact leaves_ok hres h1 k3 k1 D2 w1 k2 k5
            | ret =>
              simp only [finish, Option.map_eq_some_iff] at h
              obtain ⟨vs, h1, h2⟩ := h
              cases h2
              simp only [Ex.toE, bodyPostM]
              rw [k4]
              exact leaves_ok hres h1 k3 k1 D2 w1 k2 k5
          exact hcall
    · intro k args H v H' h B0 w0 ρ D w args' L hD hS hR hL
      simp only [callN] at h
      split at h
      case h_2 => cases h
      rename_i τ ps masg mbody hk
      split at h
      case isFalse => cases h
      rename_i hlen
      obtain ⟨x, h1, h2⟩ := endRound_iff.1 h
      obtain ⟨e, s2⟩ := x
      obtain ⟨s, s1, h3, h4, h5⟩ := aBegin_iff.1 h1
      obtain ⟨lo, nt, l1, l2, l3, l4, l5, l6, l7, l8, l9, l10⟩ := hS.loop hk hL
      have hsz : args'.size = lo.params.size := by
        have := hR.1
        simp only [Array.length_toList] at this
        rw [← Array.length_toList (xs := lo.params), l4]; omega
      refine ⟨_, _, _, _, run_yield l1 hsz, fun ro j => ?_⟩
      refine roundIn_of_wpIn trivial ?_
      have hτ0 : RT ρ nt (setps τ ps args) ((lo.params.zip args').foldl (fun tmps (t, a) => tmps.setIfInBounds t a) lo.tmps) := by
        have := setps_RT l3 hR l5
        rw [← Array.foldl_toList, Array.toList_zip, l4]
        exact this
      refine code_ok (D := D) hm ih n lo.assign masg l6 (some L.blk) (.inr l8) ⟨setps τ ps args, H⟩ .normal s h3 ρ [] _ w (by simpa using hD) rfl hS hτ0 _ fun ρ1 D2 a1 w1 k1 k2 k3 k4 k5 k6 => ?_
      have hD2 := k6 l8
      subst hD2
      unfold beginRound at h4
      split at h4
      case h_2 => cases h4
      rename_i τ1 ps1 asg1 body1 hk1
      cases h4
      have hkH : k < H.length := (List.getElem?_eq_some_iff.1 hk).1
      have hL1 : ρ1 k = some L := (k1 k hkH).trans hL
      obtain ⟨lo1, nt1, m1, m2, m3, m4, m5, m6, m7, m8, m9, m10⟩ := k2.loop hk1 hL1
      refine ⟨_, run_beginRound m1 m10.1, ?_⟩
      have hS2 : Sim P B0 w0 ρ1 (s.H.set k (.lp τ1 ps1 asg1 body1 .busy)) D (w1.putObj L.blk (.loop { lo1 with state := .busy })) :=
        k2.putLoop hk1 rfl hL1 m1 fun _ => ⟨_, nt1, World.putObj_heap_same (Array.getElem?_eq_some_iff.1 m1).1, m2, m3, m4, m5, m6, m7, m8, m9, rfl⟩
      refine code_ok (D := D) hm ih n lo.body mbody l7 (some L.blk) (.inr l9) ⟨s.τ, s.H.set k (.lp τ1 ps1 asg1 body1 .busy)⟩ e s2 h5 ρ1 [] a1 _ (by simpa using hD) k4 hS2 k3 _ fun ρ2 D3 a2 w2 q1 q2 q3 q4 q5 q6 => ?_
      have hD3 := q6 l9
      subst hD3
      simp only [endRound] at h2
      split at h2
      case h_2 => cases h2
      rename_i τ2 ps2 asg2 body2 hk2
      cases h2
      have hks : k < (s.H.set k (.lp τ1 ps1 asg1 body1 .busy)).length := by simp; exact (List.getElem?_eq_some_iff.1 hk1).1
      have hL2 : ρ2 k = some L := (q1 k hks).trans hL1
      obtain ⟨lo2, nt2, p1, p2, p3, p4, p5, p6, p7, p8, p9, p10⟩ := q2.loop hk2 hL2
      have hag : Agree H.length ρ ρ2 := fun i hi => by
        have hg := (exec_grow ih.grow _ _ _ _ _ h3).1
        simp only at hg
        rw [q1 i (by simp; omega)]
        exact k1 i hi
      have hfin : ∀ (jump : Option Code) (st : LS), LSOk st { lo2 with state := if jump.isNone then .ready else .done, pending := jump } → CPost P B0 w0 D ρ H (.bool jump.isNone) (s2.H.set k (.lp τ2 ps2 asg2 body2 st)) (.returned (.bool jump.isNone)) (w2.putObj L.blk (.loop { lo2 with state := if jump.isNone then .ready else .done, pending := jump })) :=
        fun jump st hst => ⟨_, rfl, ρ2, R.bool _, hag, q2.putLoop hk2 rfl hL2 p1 fun _ => ⟨_, nt2, World.putObj_heap_same (Array.getElem?_eq_some_iff.1 p1).1, p2, p3, p4, p5, p6, p7, p8, p9, hst⟩⟩
      cases e with
      | normal => exact ⟨_, _, run_endRound none p1, hfin none .ready ⟨rfl, rfl⟩⟩
      | exit i => exact ⟨_, _, run_endRound (some (.exit i)) p1, hfin (some (.exit i)) (.done (.exit i)) ⟨rfl, rfl, by simp⟩⟩
      | ret => exact ⟨_, _, run_endRound (some .ret) p1, hfin (some .ret) (.done .ret) ⟨rfl, rfl, by simp⟩⟩

/-- THE WHOLE: what the limit of the abstract run answers, the machine answers. -/
theorem calls_of (hm : P.follows .mixedOrders = true) {E : Env} (hE : EnvOk P E) {g : Nat} {args : List V} {H : Heap} {v : V} {H' : Heap} (h : callL E (.f g) args H = some (v, H')) {args' : Array Value} {w : World} {ρ : Rho}
    (hS : Sim P w.heap.size w ρ H [] w) (hR : RL ρ args args'.toList) : Calls P g args' w fun e w' => ∃ v', e = .returned v' ∧ ∃ ρ', R ρ' v v' ∧ Agree H.length ρ ρ' ∧ Sim P w.heap.size w ρ' H' [] w' := by
  obtain ⟨n, hn⟩ := callL_iff.1 h
  exact (callsIn_wide (n := 0)).1 (((callN_ok hm hE n).f hn).2 List.nodup_nil hS hR none 0)
end Go.Ar
