/- The abstract memory grows, and what is laid anew is one's own; what is asked of calls; one instruction, carried out by the machine. -/
import Derived.Test.YtpojdgeginigjaaAr2
import Derived.Test.YtpojdgeginigjaaAr11
import Derived.OrdersIn
import Derived.RangeFuncRecord
import Derived.Shelf.Abstract
set_option linter.unusedSimpArgs false
set_option linter.unusedVariables false
namespace Go.Ar
open Go.RowKit

/-! ### Growth -/
/-- Every live block from n on is one's own. -/
def Own (n : Nat) (H : Heap) : Prop := ∀ (k : Nat) (b : Blk), n ≤ k → H[k]? = some b → b.live = true → b.own = true
def Grow (H H' : Heap) : Prop := H.length ≤ H'.length ∧ ∀ n, n ≤ H.length → Own n H → Own n H'
def GrowC (call : CallF) : Prop := ∀ (t : Tgt) (args : List V) (H : Heap) (v : V) (H' : Heap), call t args H = some (v, H') → Grow H H'

theorem Grow.refl (H : Heap) : Grow H H := ⟨Nat.le_refl _, fun _ _ h => h⟩
theorem Grow.trans {H H' H'' : Heap} (h : Grow H H') (h' : Grow H' H'') : Grow H H'' := ⟨Nat.le_trans h.1 h'.1, fun n hn ho => h'.2 n (Nat.le_trans hn h.1) (h.2 n hn ho)⟩
theorem Grow.push (H : Heap) {b : Blk} (hb : b.live = true → b.own = true) : Grow H (H ++ [b]) := by
  refine ⟨by simp, fun n hn ho k c hk hc hl => ?_⟩
  by_cases hlt : k < H.length
  · rw [List.getElem?_append_left hlt] at hc; exact ho k c hk hc hl
  · rw [List.getElem?_append_right (by omega)] at hc
    cases hd : k - H.length with
    | zero => rw [hd] at hc; simp at hc; subst hc; exact hb hl
    | succ i => rw [hd] at hc; simp at hc
theorem Grow.set (H : Heap) (k : Nat) {b : Blk} (hb : b.live = true → b.own = true) : Grow H (H.set k b) := by
  refine ⟨by simp, fun n hn ho j c hj hc hl => ?_⟩
  rw [List.getElem?_set] at hc
  by_cases e : k = j
  · simp only [e, if_true] at hc
    split at hc
    · cases hc; exact hb hl
    · cases hc
  · rw [if_neg e] at hc; exact ho j c hj hc hl

theorem wr_grow {H H' : Heap} {k o : Nat} {vs : List V} (h : wr H k o vs = some H') : Grow H H' := by
  unfold wr at h
  split at h
  · rename_i cs m hk
    split at h
    · cases h
    · rename_i hm
      split at h
      · split at h
        · cases h; exact Grow.set H k (fun _ => by simpa [Blk.own] using hm)
        · cases h
      · cases h
  · cases h

theorem appendv_grow {H H' : Heap} {size bytes : Nat} {x y v : V} (h : appendv H size bytes x y = some (v, H')) : Grow H H' := by
  unfold appendv at h
  split at h
  · split at h
    · cases h
    · split at h
      · split at h
        · cases h; exact Grow.refl _
        · split at h
          · cases h; exact Grow.push _ (fun _ => rfl)
          · cases h
      · split at h
        · split at h
          · split at h
            · split at h
              · rename_i H1 hw; cases h; exact wr_grow hw
              · cases h
            · split at h
              · split at h
                · cases h; exact Grow.push _ (fun _ => rfl)
                · split at h
                  · cases h
                    exact (Grow.set _ _ (fun h => by simp [Blk.live] at h)).trans (Grow.push _ (fun _ => rfl))
                  · cases h
                · cases h
              · cases h
          · cases h
        · cases h
      · cases h
  · cases h

theorem mkslice_grow {H H' : Heap} {v : V} {n : Int} {zs : List V} {bytes : Nat}
    (h : (if 0 ≤ n ∧ n ≤ lim ∧ n * bytes ≤ 2 ^ 40 then some (V.sl H.length 0 n.toNat n.toNat, H ++ [.cells ((List.replicate n.toNat zs).flatten) .ex]) else none) = some (v, H')) : Grow H H' := by
  split at h
  · cases h; exact Grow.push _ (fun _ => rfl)
  · cases h

theorem aop_grow {call : CallF} (hc : GrowC call) {τ : Nat → V} {H H' : Heap} {i : I} {v : V} (h : aop call τ H i = some (v, H')) : Grow H H' := by
  cases i <;> simp only [aop] at h
  case append => exact appendv_grow h
  case mkslice =>
    split at h
    · exact mkslice_grow h
    · cases h
  case alloc => cases h; exact Grow.push _ (fun _ => rfl)
  case box =>
    split at h
    · split at h
      · cases h; exact Grow.push _ (fun _ => rfl)
      · cases h
    · cases h
  case bslice =>
    simp only [Option.map_eq_some_iff] at h
    obtain ⟨cs, _, h⟩ := h
    cases h; exact Grow.push _ (fun _ => rfl)
  case mkmap => cases h; exact Grow.push _ (fun _ => rfl)
  case store =>
    split at h
    · split at h
      · simp only [Option.map_eq_some_iff] at h
        obtain ⟨H1, hw, h⟩ := h
        cases h; exact wr_grow hw
      · cases h
    · cases h
  case copy =>
    split at h
    · split at h
      · split at h
        · simp only [Option.map_eq_some_iff] at h
          obtain ⟨H1, hw, h⟩ := h
          cases h; exact wr_grow hw
        · cases h; exact Grow.refl _
        · cases h
      · cases h
    · cases h
  case clear =>
    split at h
    · cases h; exact Grow.refl _
    · split at h
      · cases h; exact Grow.refl _
      · simp only [Option.map_eq_some_iff] at h
        obtain ⟨H1, hw, h⟩ := h
        cases h; exact wr_grow hw
    · cases h
  case mapupd =>
    split at h
    · split at h
      · split at h <;> first | (cases h; exact Grow.set _ _ (fun _ => rfl)) | cases h
      · cases h
    · cases h
  case mapent =>
    split at h
    · split at h
      · split at h <;> first | (cases h; exact Grow.set _ _ (fun _ => rfl)) | cases h
      · cases h
    · cases h
  case entst =>
    split at h
    · split at h
      · split at h
        · split at h
          · cases h; exact Grow.set _ _ (fun _ => rfl)
          · cases h
        · cases h
      · cases h
    · cases h
  case call =>
    split at h
    · exact hc _ _ _ _ _ h
    · exact hc _ _ _ _ _ h
    · cases h
  all_goals
    have e : H = H' := by
      repeat' split at h
      all_goals first
        | (cases h; rfl)
        | (cases h; done)
        | (simp only [Option.map_eq_some_iff] at h; obtain ⟨_, _, h⟩ := h; cases h; rfl)
    subst e; exact Grow.refl _

theorem ins_grow {call : CallF} (hc : GrowC call) {x : Ins} {s s' : St} (h : ins call x s = some s') : Grow s.H s'.H := by
  unfold ins at h
  split at h
  · simp only [Option.map_eq_some_iff] at h
    obtain ⟨p, hp, rfl⟩ := h
    exact aop_grow hc (v := p.1) (H' := p.2) hp
  · cases h; exact Grow.refl _
  · cases h
theorem insL_grow {call : CallF} (hc : GrowC call) : ∀ {l : List Ins} {s s' : St}, insL call l s = some s' → Grow s.H s'.H
  | [], _, _, h => by cases h; exact Grow.refl _
  | x :: xs, s, s', h => by
    simp only [insL, Option.bind_eq_some_iff] at h
    obtain ⟨s1, h1, h2⟩ := h
    exact (ins_grow hc h1).trans (insL_grow hc h2)

theorem getElem?_prot (hide : List Nat) (H : Heap) (k : Nat) : (prot hide H)[k]? = (H[k]?).map fun b => if k ∈ hide then .dead else ro1 b := by
  simp [prot]
theorem length_prot (hide : List Nat) (H : Heap) : (prot hide H).length = H.length := by simp [prot]

theorem pcall_of {call : CallF} {hide : List Nat} {t : Tgt} {args : List V} {H : Heap} {v : V} {H' : Heap} (h : pcall call hide t args H = some (v, H')) :
    ∃ Hp, call t args (prot hide H) = some (v, Hp) ∧ H' = H ++ Hp.drop H.length := by
  unfold pcall at h
  simp only [Option.map_eq_some_iff] at h
  obtain ⟨p, hp, h⟩ := h
  cases h
  exact ⟨p.2, hp, rfl⟩

theorem pcall_grow {call : CallF} (hc : GrowC call) (hide : List Nat) : GrowC (pcall call hide) := by
  intro t args H v H' h
  obtain ⟨Hp, hp, rfl⟩ := pcall_of h
  have hg := hc _ _ _ _ _ hp
  rw [Grow, length_prot] at hg
  have ho : Own H.length Hp := hg.2 _ (Nat.le_refl _) (fun k b hk hb _ => by
    rw [getElem?_prot, List.getElem?_eq_none (by omega)] at hb; cases hb)
  refine ⟨by simp, fun n hn hown k b hk hb hl => ?_⟩
  by_cases hlt : k < H.length
  · rw [List.getElem?_append_left hlt] at hb; exact hown k b hk hb hl
  · rw [List.getElem?_append_right (by omega), List.getElem?_drop] at hb
    exact ho _ b (by omega) hb hl

theorem dins_grow {call : CallF} (hc : GrowC call) {N : Nat} {d : DM × Ins} {s s' : St} (h : dins call N d s = some s') : Grow s.H s'.H := by
  unfold dins at h
  split at h
  · exact ins_grow hc h
  · exact ins_grow (pcall_grow hc _) h
  · split at h
    · split at h
      · rename_i b mk hb
        split at h
        · cases h
          refine Grow.set _ _ (fun _ => ?_)
          unfold newOf at hb
          split at hb
          · cases hb; rfl
          · split at hb
            · split at hb
              · cases hb; rfl
              · cases hb
            · cases hb
          · simp only [Option.map_eq_some_iff] at hb; obtain ⟨_, _, hb⟩ := hb; cases hb; rfl
          · split at hb
            · split at hb
              · cases hb; rfl
              · cases hb
            · cases hb
          · cases hb
        · cases h
      · cases h
    · cases h; exact Grow.refl _
    · cases h
theorem dinsL_grow {call : CallF} (hc : GrowC call) {N : Nat} : ∀ {l : List (DM × Ins)} {s s' : St}, dinsL call N l s = some s' → Grow s.H s'.H
  | [], _, _, h => by cases h; exact Grow.refl _
  | x :: xs, s, s', h => by
    simp only [dinsL, Option.bind_eq_some_iff] at h
    obtain ⟨s1, h1, h2⟩ := h
    exact (dins_grow hc h1).trans (dinsL_grow hc h2)

theorem Grow.dead (H : Heap) (n : Nat) : Grow H (H ++ List.replicate n .dead) := by
  refine ⟨by simp, fun m hm ho k b hk hb hl => ?_⟩
  by_cases hlt : k < H.length
  · rw [List.getElem?_append_left hlt] at hb; exact ho k b hk hb hl
  · rw [List.getElem?_append_right (by omega), List.getElem?_replicate] at hb
    split at hb
    · cases hb; simp [Blk.live] at hl
    · cases hb

theorem iter_grow {f : St → Out} (hf : ∀ s e s', f s = some (e, s') → Grow s.H s'.H) : ∀ (n : Nat) (s : St) (e : Ex) (s' : St), iter n f s = some (e, s') → Grow s.H s'.H
  | 0, _, _, _, h => by simp [iter] at h
  | n + 1, s, e, s', h => by
    rcases andThen_iff.1 h with ⟨s1, h1, h2⟩ | ⟨h1, _⟩
    · exact (hf _ _ _ h1).trans (iter_grow hf n _ _ _ h2)
    · exact hf _ _ _ h1

theorem exec_grow {call : CallF} (hc : GrowC call) (n : Nat) : ∀ (m : MC) (s : St) (e : Ex) (s' : St), exec call n m s = some (e, s') → Grow s.H s'.H := by
  intro m
  induction m with
  | skip => intro s e s' h; cases h; exact Grow.refl _
  | reg ops =>
    intro s e s' h
    simp only [exec, Option.map_eq_some_iff] at h
    obtain ⟨s1, h1, h⟩ := h
    cases h; exact insL_grow hc h1
  | dreg nh ops chk =>
    intro s e s' h
    simp only [exec] at h
    cases hd : dinsL call s.H.length ops ⟨s.τ, s.H ++ List.replicate nh .dead⟩ with
    | none => rw [hd] at h; simp [afterDraw] at h
    | some s1 =>
      rw [hd] at h
      simp only [afterDraw] at h
      split at h
      · cases h; exact (Grow.dead _ _).trans (dinsL_grow (s := ⟨s.τ, s.H ++ List.replicate nh .dead⟩) hc hd)
      · cases h
  | seq a b iha ihb =>
    intro s e s' h
    rcases andThen_iff.1 h with ⟨s1, h1, h2⟩ | ⟨h1, _⟩
    · exact (iha _ _ _ h1).trans (ihb _ _ _ h2)
    · exact iha _ _ _ h1
  | cond c a b iha ihb =>
    intro s e s' h
    simp only [exec] at h
    split at h
    · rename_i t _
      cases t
      · exact ihb _ _ _ h
      · exact iha _ _ _ h
    · cases h
  | block id a ih =>
    intro s e s' h
    simp only [exec] at h
    cases hr : exec call n a s with
    | none => rw [hr] at h; simp [unblk] at h
    | some x =>
      obtain ⟨e1, s1⟩ := x
      have := ih _ _ _ hr
      rw [hr] at h
      cases e1 <;> simp only [unblk] at h
      · cases h; exact this
      · split at h <;> (cases h; exact this)
      · cases h; exact this
  | loop a ih => intro s e s' h; exact iter_grow ih n _ _ _ h
  | exit id => intro s e s' h; cases h; exact Grow.refl _
  | ret => intro s e s' h; cases h; exact Grow.refl _
  | rangef f ps asg body _ _ =>
    intro s e s' h
    simp only [exec] at h
    split at h
    · rename_i t a b _
      cases hr : call t (a ++ [.yld s.H.length] ++ b) (s.H ++ [.lp s.τ ps asg body .ready]) with
      | none => rw [hr] at h; simp [afterRange] at h
      | some p =>
        obtain ⟨v, H'⟩ := p
        have h1 := (Grow.push s.H (b := .lp s.τ ps asg body .ready) (fun _ => rfl)).trans (hc _ _ _ _ _ hr)
        rw [hr] at h
        simp only [afterRange] at h
        split at h
        · cases h; exact h1.trans (Grow.set _ _ (fun h => by simp [Blk.live] at h))
        · cases h; exact h1.trans (Grow.set _ _ (fun h => by simp [Blk.live] at h))
        · cases h
    · cases h

theorem callN_grow {E : Env} (hE : ∀ g h args H v H', E.S g = some h → h args H = some (v, H') → Grow H H') : ∀ n, GrowC (callN E n)
  | 0 => fun t args H v H' h => by cases t <;> simp [callN] at h
  | n + 1 => fun t args H v H' h => by
    have ih := callN_grow hE n
    cases t with
    | f g =>
      simp only [callN] at h
      split at h
      · rename_i hh hs; exact hE _ _ _ _ _ _ hs h
      · split at h
        · rename_i fc _
          split at h
          · cases hr : exec (callN E n) n fc.body ⟨args0 args, H⟩ with
            | none => rw [hr] at h; simp [finish] at h
            | some x =>
              obtain ⟨e, s⟩ := x
              have := exec_grow ih n _ _ _ _ hr
              rw [hr] at h
              cases e <;> simp only [finish] at h <;> first | (cases h; done) | (simp only [Option.map_eq_some_iff] at h; obtain ⟨_, _, h⟩ := h; cases h; exact this)
          · cases h
        · cases h
    | y k =>
      simp only [callN] at h
      split at h
      · rename_i τ ps asg body hk
        split at h
        · obtain ⟨x, h1, h2⟩ := endRound_iff.1 h
          obtain ⟨e, s2⟩ := x
          obtain ⟨s, s1, h3, h4, h5⟩ := aBegin_iff.1 h1
          have g1 := exec_grow ih n _ _ _ _ h3
          have g2 := exec_grow ih n _ _ _ _ h5
          have g3 : Grow s.H s1.H := by
            unfold beginRound at h4
            split at h4
            · cases h4; exact Grow.set _ _ (fun _ => rfl)
            · cases h4
          have g4 : Grow s2.H H' := by
            simp only [endRound] at h2
            split at h2
            · cases h2; exact Grow.set _ _ (fun _ => rfl)
            · cases h2
          exact ((g1.trans g3).trans g2).trans g4
        · cases h
      · cases h

/-! ### Calls -/
abbrev FW (ro : Option Nat) : Fence := { fn := fun _ => True, depth := none, alive := false, round := ro }
theorem fw_room (ro : Option Nat) (n : Nat) : (FW ro).room n := fun _ h => by simp at h

/-- What a call comes to. -/
def CPost (P : Program) (B0 : Nat) (w0 : World) (D : List Nat) (ρ : Rho) (H : Heap) (v : V) (H' : Heap) : Ending → World → Prop := fun e w' =>
  ∃ v', e = .returned v' ∧ ∃ ρ', R ρ' v v' ∧ Agree H.length ρ ρ' ∧ Sim P B0 w0 ρ' H' D w'

structure CallOk (P : Program) (call : CallF) : Prop where
  f : ∀ {g : Nat} {args : List V} {H : Heap} {v : V} {H' : Heap}, call (.f g) args H = some (v, H') → Go.Proofs.Enters P g ∧
    ∀ {B0 : Nat} {w0 : World} {ρ : Rho} {D : List Nat} {w : World} {args' : Array Value}, D.Nodup → Sim P B0 w0 ρ H D w → RL ρ args args'.toList →
      ∀ (ro : Option Nat) (n : Nat), CallsIn (FW ro) n P g args' w (CPost P B0 w0 D ρ H v H')
  y : ∀ {k : Nat} {args : List V} {H : Heap} {v : V} {H' : Heap}, call (.y k) args H = some (v, H') →
    ∀ {B0 : Nat} {w0 : World} {ρ : Rho} {D : List Nat} {w : World} {args' : Array Value} {L : Loc}, D.Nodup → Sim P B0 w0 ρ H D w → RL ρ args args'.toList → ρ k = some L →
      ∃ (f : FuncId) (tmps : Array Value) (asg body : Code), (Instr.yield L.blk args').run P w = .ok (.round L.blk f tmps asg body) w ∧
        ∀ (ro : Option Nat) (n : Nat), RoundIn (FW ro) n P L.blk f tmps asg body w (CPost P B0 w0 D ρ H v H')
  grow : GrowC call

/-! ### A call with nothing to be written -/
variable {P : Program} {B0 : Nat} {w0 : World} {ρ : Rho} {H : Heap} {D : List Nat} {w : World}

theorem BlkOk.base {P : Program} {B0 B1 : Nat} {ρ : Rho} {L : Loc} {w : World} {b : Blk} (hb : BlkOk P B1 ρ L w b) (h : B0 ≤ B1) : BlkOk P B0 ρ L w b := by
  cases b with
  | dead => trivial
  | cells cs m =>
    obtain ⟨c, T, fr, h1, h2, h3⟩ := hb
    refine ⟨c, T, fr, h1, h2, ?_⟩
    cases m with
    | ro => exact h3
    | rg es => exact h3
    | ex => exact ⟨Nat.le_trans h h3.1, h3.2⟩
    | gr es => exact ⟨Nat.le_trans h h3.1, h3.2⟩
  | mp es => obtain ⟨en, cl, h1, h0, h2⟩ := hb; exact ⟨en, cl, h1, Nat.le_trans h h0, h2⟩
  | lp τ ps asg body st => obtain ⟨lo, nt, h1, h0, h2⟩ := hb; exact ⟨lo, nt, h1, Nat.le_trans h h0, h2⟩

theorem ro1_ok {L : Loc} {b : Blk} (hb : BlkOk P B0 ρ L w b) (B1 : Nat) : BlkOk P B1 ρ L w (ro1 b) := by
  cases b with
  | dead => trivial
  | mp es => trivial
  | lp τ ps asg body st => trivial
  | cells cs m =>
    obtain ⟨c, T, fr, h1, h2, h3⟩ := hb
    cases m with
    | ro => exact ⟨c, T, fr, h1, h2, h3⟩
    | rg es => exact ⟨c, T, fr, h1, h2, h3⟩
    | ex => exact ⟨c, T, fr, h1, h2, fun es sz => by rw [h3.2.2.2.1]; intro h; cases h⟩
    | gr es => exact ⟨c, T, fr, h1, h2, h3.2.2.2⟩
theorem ro1_own (b : Blk) : (ro1 b).own = false := by
  cases b with
  | cells cs m => cases m <;> rfl
  | _ => rfl
theorem ro1_live {b : Blk} (h : (ro1 b).live = true) : b.live = true := by
  cases b with
  | cells cs m => rfl
  | _ => simp [ro1, Blk.live] at h

theorem Sim.prot (hS : Sim P B0 w0 ρ H D w) (hide : List Nat) : Sim P w.heap.size w ρ (prot hide H) [] w := by
  have hget : ∀ k b, (Ar.prot hide H)[k]? = some b → b.live = true → ∃ c, H[k]? = some c ∧ b = ro1 c := fun k b hb hl => by
    rw [getElem?_prot] at hb
    simp only [Option.map_eq_some_iff] at hb
    obtain ⟨c, hc, e⟩ := hb
    refine ⟨c, hc, ?_⟩
    split at e
    · subst e; simp [Blk.live] at hl
    · exact e.symm
  refine ⟨fun k hk => hS.out k (by rwa [length_prot] at hk), Nat.le_refl _, Below.refl _ _, fun k b hb hl => ?_, fun k k' b b' L L' _ hb ho _ _ _ _ => ?_, fun r hr => by cases hr⟩
  · obtain ⟨c, hc, rfl⟩ := hget k b hb hl
    obtain ⟨L, h1, h2⟩ := hS.blk k c hc (ro1_live hl)
    exact ⟨L, h1, ro1_ok h2 _⟩
  · obtain ⟨c, hc, rfl⟩ := hget k b hb (Blk.own_live ho)
    rw [ro1_own] at ho; cases ho

theorem Sim.unprot (hS : Sim P B0 w0 ρ H D w) {ρ' : Rho} {Hp : Heap} {w' : World} (hlen : H.length ≤ Hp.length) (ho : Own H.length Hp) (ha : Agree H.length ρ ρ') (hP : Sim P w.heap.size w ρ' Hp [] w') :
    Sim P B0 w0 ρ' (H ++ Hp.drop H.length) D w' := by
  have hle := hS.le ha
  have hold : ∀ k b, k < H.length → (H ++ Hp.drop H.length)[k]? = some b → H[k]? = some b := fun k b hk hb => by rwa [List.getElem?_append_left hk] at hb
  have hnew : ∀ k b, H.length ≤ k → (H ++ Hp.drop H.length)[k]? = some b → Hp[k]? = some b := fun k b hk hb => by
    rw [List.getElem?_append_right hk, List.getElem?_drop] at hb
    rwa [show H.length + (k - H.length) = k by omega] at hb
  have hsz := hS.sizeLe
  have hheap : ∀ r, r < w.heap.size → w'.heap[r]? = w.heap[r]? := fun r hr => hP.low.block r hr
  refine ⟨fun k hk => hP.out k (by simp at hk; omega), hS.base, ?_, fun k b hb hl => ?_, fun k k' b b' L L' hkk hb hbo hb' hbl hL hL' => ?_, fun r hr => ?_⟩
  · exact ⟨hP.low.os.trans hS.low.os, hP.low.tape.trans hS.low.tape, hP.low.output.trans hS.low.output, Nat.le_trans hS.low.size hP.low.size, fun k hk => (hheap k (by omega)).trans (hS.low.block k hk)⟩
  · by_cases hk : k < H.length
    · obtain ⟨L, h1, h2⟩ := hS.blk k b (hold k b hk hb) hl
      exact ⟨L, hle _ _ h1, (h2.mono hle).heap (hheap _ (h2.lt hl))⟩
    · obtain ⟨L, h1, h2⟩ := hP.blk k b (hnew k b (by omega) hb) hl
      exact ⟨L, h1, h2.base hsz⟩
  · have hlo : ∀ j c M, j < H.length → (H ++ Hp.drop H.length)[j]? = some c → c.live = true → ρ' j = some M → M.blk < w.heap.size ∧ ρ j = some M := fun j c M hj hc hcl hM => by
      obtain ⟨L1, h1, h2⟩ := hS.blk j c (hold j c hj hc) hcl
      have := hle _ _ h1
      rw [hM] at this; cases this
      exact ⟨h2.lt hcl, h1⟩
    have hhi : ∀ j c M, H.length ≤ j → (H ++ Hp.drop H.length)[j]? = some c → c.live = true → ρ' j = some M → w.heap.size ≤ M.blk ∧ Hp[j]? = some c ∧ c.own = true := fun j c M hj hc hcl hM => by
      have hc' := hnew j c hj hc
      have hown := ho j c hj hc' hcl
      obtain ⟨L1, h1, h2⟩ := hP.blk j c hc' hcl
      rw [hM] at h1; cases h1
      exact ⟨h2.low hown, hc', hown⟩
    have hbl0 := Blk.own_live hbo
    by_cases hk : k < H.length <;> by_cases hk' : k' < H.length
    · obtain ⟨_, e1⟩ := hlo k b L hk hb hbl0 hL
      obtain ⟨_, e2⟩ := hlo k' b' L' hk' hb' hbl hL'
      exact hS.sep k k' b b' L L' hkk (hold k b hk hb) hbo (hold k' b' hk' hb') hbl e1 e2
    · have e1 := (hlo k b L hk hb hbl0 hL).1
      have e2 := (hhi k' b' L' (by omega) hb' hbl hL').1
      omega
    · have e1 := (hhi k b L (by omega) hb hbl0 hL).1
      have e2 := (hlo k' b' L' hk' hb' hbl hL').1
      omega
    · obtain ⟨_, e1, _⟩ := hhi k b L (by omega) hb hbl0 hL
      obtain ⟨_, e2, _⟩ := hhi k' b' L' (by omega) hb' hbl hL'
      exact hP.sep k k' b b' L L' hkk e1 hbo e2 hbl hL hL'
  · obtain ⟨h1, h2⟩ := hS.dfr r hr
    exact ⟨h1, (hheap r (Array.getElem?_eq_some_iff.1 h2).1).trans h2⟩

theorem CallOk.pcall {call : CallF} (h : CallOk P call) (hide : List Nat) : CallOk P (pcall call hide) := by
  have hpost : ∀ {t : Tgt} {args : List V} {H : Heap} {v : V} {Hp : Heap}, call t args (Ar.prot hide H) = some (v, Hp) →
      ∀ {B0 : Nat} {w0 : World} {ρ : Rho} {D : List Nat} {w : World}, Sim P B0 w0 ρ H D w → ∀ e w', CPost P w.heap.size w [] ρ (Ar.prot hide H) v Hp e w' → CPost P B0 w0 D ρ H v (H ++ Hp.drop H.length) e w' := by
    intro t args H v Hp hc B0 w0 ρ D w hS e w' hp
    obtain ⟨v', he, ρ', hR, ha, hP⟩ := hp
    have hg := h.grow _ _ _ _ _ hc
    rw [Grow, length_prot] at hg
    rw [length_prot] at ha
    refine ⟨v', he, ρ', hR, ha, hS.unprot hg.1 (hg.2 _ (Nat.le_refl _) fun k b hk hb _ => ?_) ha hP⟩
    rw [getElem?_prot, List.getElem?_eq_none (by omega)] at hb; cases hb
  constructor
  · intro g args H v H' hc
    obtain ⟨Hp, hp, rfl⟩ := pcall_of hc
    obtain ⟨h1, h2⟩ := h.f hp
    exact ⟨h1, fun hD hS hR ro n => (h2 List.nodup_nil (hS.prot hide) hR ro n).mono (hpost hp hS)⟩
  · intro k args H v H' hc B0 w0 ρ D w args' L hD hS hR hL
    obtain ⟨Hp, hp, rfl⟩ := pcall_of hc
    obtain ⟨f, tmps, asg, body, h1, h2⟩ := h.y hp List.nodup_nil (hS.prot hide) hR hL
    exact ⟨f, tmps, asg, body, h1, fun ro n => (h2 ro n).mono (hpost hp hS)⟩
  · exact pcall_grow h.grow hide
end Go.Ar
