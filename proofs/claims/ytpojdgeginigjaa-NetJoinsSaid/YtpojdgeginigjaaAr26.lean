/- Tools for walks: registers, counted loops, heaps by what is owned. -/
import Derived.Test.YtpojdgeginigjaaAr25
set_option linter.unusedSimpArgs false
set_option linter.unusedVariables false
namespace Go.Ar
variable {E : Env}

/-- What some registers hold. -/
def Rg (τ : Nat → V) : List (Nat × V) → Prop
  | [] => True
  | p :: L => τ p.1 = p.2 ∧ Rg τ L
theorem wa_rg {m : MC} {τ : Nat → V} {H : Heap} {Q : Ex → St → Prop} (L : List (Nat × V)) (h : Rg τ L) (k : ∀ τ', Rg τ' L → WP E m ⟨τ', H⟩ Q) : WP E m ⟨τ, H⟩ Q := k τ h
theorem Rg.upd {τ : Nat → V} {d : Nat} {v : V} : ∀ {L : List (Nat × V)}, Rg τ L → (∀ p ∈ L, p.1 ≠ d) → Rg (Ar.upd τ d v) L
  | [], _, _ => trivial
  | p :: L, h, hn => ⟨by simp only [Ar.upd]; rw [show (p.1 == d) = false by simpa using hn p (by simp)]; exact h.1, Rg.upd h.2 fun q hq => hn q (by simp [hq])⟩

theorem wa_sr {ops : List Ins} {b : MC} {s : St} {Q : Ex → St → Prop} (h : ∃ s', insL (callL E) ops s = some s' ∧ WP E b s' Q) : WP E (.seq (.reg ops) b) s Q :=
  let ⟨s', h1, h2⟩ := h; wa_seq (wa_reg h1 h2)
theorem wa_as {a b c : MC} {s : St} {Q : Ex → St → Prop} (h : WP E (.seq a (.seq b c)) s Q) : WP E (.seq (.seq a b) c) s Q := by
  obtain ⟨e, s', h1, h2⟩ := h
  refine ⟨e, s', ?_, h2⟩
  rw [← h1]
  simp only [execL_seq]
  cases execL E a s with
  | none => rfl
  | some r => obtain ⟨e1, s1⟩ := r; cases e1 <;> simp [andThen]
theorem wa_sk {r : MC} {s : St} {Q : Ex → St → Prop} (h : WP E r s Q) : WP E (.seq .skip r) s Q := wa_seq (wa_skip h)
theorem wa_rt {r : MC} {s : St} {Q : Ex → St → Prop} (h : Q .ret s) : WP E (.seq .ret r) s Q := wa_seq (wa_ret h)
theorem wa_ex {i : Nat} {r : MC} {s : St} {Q : Ex → St → Prop} (h : Q (.exit i) s) : WP E (.seq (.exit i) r) s Q := wa_seq (wa_exit h)
/-- A piece, with what is known behind it. -/
theorem wa_cut {a b : MC} {s : St} {Q : Ex → St → Prop} (P : St → Prop) (h : WP E a s (After Q P)) (h2 : ∀ s', P s' → WP E b s' Q) : WP E (.seq a b) s Q := by
  refine wa_seq (h.mono fun e s' hq => ?_)
  cases e with
  | normal => exact h2 s' hq
  | exit i => exact hq
  | ret => exact hq

theorem w64 {x : Int} (h1 : -9223372036854775808 ≤ x) (h2 : x < 9223372036854775808) : IntKind.i64.wrap x = x := by
  simp [IntKind.wrap, IntKind.bits, IntKind.signed]; omega

/-! ### Code, made flat -/
def MC.app : MC → MC → MC
  | .seq a b, c => MC.app a (MC.app b c)
  | .skip, c => c
  | a, c => .seq a c
def MC.norm : MC → MC
  | .seq a b => MC.app (MC.norm a) (MC.norm b)
  | .cond c a b => .cond c (MC.norm a) (MC.norm b)
  | .block id a => .block id (MC.norm a)
  | .loop a => .loop (MC.norm a)
  | a => a

theorem andThen_assoc (r : Out) (f g : St → Out) : andThen (andThen r f) g = andThen r (fun s => andThen (f s) g) := by
  rcases r with _ | ⟨e, s⟩
  · rfl
  · cases e <;> rfl
theorem execL_app : ∀ (a c : MC) (s : St), execL E (MC.app a c) s = andThen (execL E a s) (execL E c)
  | .seq a b, c, s => by
    simp only [MC.app, execL_app a, execL_seq, andThen_assoc]
    congr 1; funext s'; exact execL_app b c s'
  | .skip, c, s => by simp [MC.app, execL_skip, andThen]
  | .reg _, c, s => by simp only [MC.app, execL_seq]
  | .dreg _ _ _, c, s => by simp only [MC.app, execL_seq]
  | .cond _ _ _, c, s => by simp only [MC.app, execL_seq]
  | .block _ _, c, s => by simp only [MC.app, execL_seq]
  | .loop _, c, s => by simp only [MC.app, execL_seq]
  | .exit _, c, s => by simp only [MC.app, execL_seq]
  | .ret, c, s => by simp only [MC.app, execL_seq]
  | .rangef _ _ _ _, c, s => by simp only [MC.app, execL_seq]
theorem loop_imp {a b : MC} (h : ∀ s, execL E a s = execL E b s) (s : St) (x : Ex × St) (hx : execL E (.loop a) s = some x) : execL E (.loop b) s = some x := by
  obtain ⟨n, hn⟩ := execL_iff.1 hx
  simp only [exec] at hn
  have key : ∀ (k : Nat) (s : St), iter k (exec (callN E n) n a) s = some x → execL E (.loop b) s = some x := by
    intro k
    induction k with
    | zero => intro s h; simp [iter] at h
    | succ k ih =>
      intro s hs
      simp only [iter] at hs
      rw [execL_loop, ← h]
      rcases andThen_iff.1 hs with ⟨s1, h1, h2⟩ | ⟨h1, h2⟩
      · rw [execL_iff.2 ⟨n, h1⟩]; exact ih s1 h2
      · rw [execL_iff.2 ⟨n, h1⟩]
        obtain ⟨e, s2⟩ := x
        cases e with
        | normal => exact absurd rfl h2
        | exit i => rfl
        | ret => rfl
  exact key n s hn
theorem execL_cond' (c : X) (a b : MC) (s : St) : execL E (.cond c a b) s = match ev s.τ c with | .bool t => cond t (execL E a s) (execL E b s) | _ => none := by
  cases hc : ev s.τ c with
  | bool t => exact execL_cond hc
  | _ =>
    refine ext_iff fun r => ?_
    rw [execL_iff]
    simp only [exec, hc]; simp
theorem execL_norm : ∀ (m : MC) (s : St), execL E (MC.norm m) s = execL E m s
  | .seq a b, s => by
    simp only [MC.norm, execL_app, execL_seq, execL_norm a]
    congr 1; funext s'; exact execL_norm b s'
  | .cond c a b, s => by simp only [MC.norm, execL_cond', execL_norm a, execL_norm b]
  | .block id a, s => by simp only [MC.norm, execL_block, execL_norm a]
  | .loop a, s => ext_iff fun x => ⟨loop_imp (execL_norm a) s x, loop_imp (fun s => (execL_norm a s).symm) s x⟩
  | .skip, s | .reg _, s | .dreg _ _ _, s | .exit _, s | .ret, s | .rangef _ _ _ _, s => by simp only [MC.norm]
theorem wa_norm {m m' : MC} {s : St} {Q : Ex → St → Prop} (hm : MC.norm m = m') (h : WP E m' s Q) : WP E m s Q := by
  subst hm
  obtain ⟨e, s', h1, h2⟩ := h
  exact ⟨e, s', by rw [← execL_norm]; exact h1, h2⟩

theorem wa_if {c : X} {a b r : MC} {s : St} {t : Bool} {Q : Ex → St → Prop} (hc : ev s.τ c = .bool t) (h1 : t = true → WP E (MC.app a r) s Q) (h2 : t = false → WP E (MC.app b r) s Q) : WP E (.seq (.cond c a b) r) s Q := by
  cases t with
  | true => obtain ⟨e, s', h3, h4⟩ := h1 rfl; exact ⟨e, s', by rw [execL_seq, execL_cond hc]; rw [execL_app] at h3; exact h3, h4⟩
  | false => obtain ⟨e, s', h3, h4⟩ := h2 rfl; exact ⟨e, s', by rw [execL_seq, execL_cond hc]; rw [execL_app] at h3; exact h3, h4⟩

/-- A counted loop. -/
theorem ev_upd {τ : Nat → V} {d : Nat} {v : V} {x : X} (h : x.tmps.contains d = false) : ev (upd τ d v) x = ev τ x := by
  cases x with
  | c v => rfl
  | t n =>
    have : (n == d) = false := by
      by_cases e : n = d
      · subst e; simp [X.tmps] at h
      · simpa using e
    simp only [ev, upd, this, cond_false]
theorem wa_for {K : IntKind} {c d e i1 i2 : Nat} {bx : X} {body : MC} {n : Nat} {Y : Type} (R : Nat → Y → List (Nat × V)) (P : Nat → Y → Heap → Prop) {Q : Ex → St → Prop} {τ : Nat → V} {H : Heap} (y : Y)
    (hcb : (c == d) = false ∧ (c == e) = false ∧ bx.tmps.contains c = false ∧ bx.tmps.contains d = false ∧ bx.tmps.contains e = false)
    (hw : ∀ i : Nat, i < n → K.wrap ((i : Int) + 1) = (i : Int) + 1) (hc : τ c = .int K 0) (hb : ev τ bx = .int K n) (h0 : Rg τ (R 0 y)) (hp : P 0 y H)
    (hR : ∀ i y p, p ∈ R i y → p.1 ≠ c ∧ p.1 ≠ d ∧ p.1 ≠ e)
    (step : ∀ i y τ H, i < n → τ c = .int K i → ev τ bx = .int K n → Rg τ (R i y) → P i y H →
      WP E body ⟨τ, H⟩ (InBlk i2 (After (InBlk i1 Q) fun s => s.τ c = .int K i ∧ ev s.τ bx = .int K n ∧ ∃ y', Rg s.τ (R (i + 1) y') ∧ P (i + 1) y' s.H)))
    (last : ∀ y τ H, Rg τ (R n y) → P n y H → Q .normal ⟨τ, H⟩) :
    WP E (.block i1 (.loop (.seq (.reg [⟨some d, .bin .lss (.t c) bx, none⟩]) (.seq (.cond (.t d) .skip (.exit i1)) (.seq (.block i2 body) (.reg [⟨some e, .bin .add (.t c) (.c (.int K 1)), none⟩, ⟨some c, .mv (.t e), none⟩])))))) ⟨τ, H⟩ Q := by
  obtain ⟨q5, q6, b1, b2, b3⟩ := hcb
  refine wa_block (wa_loop (fun m s => ∃ i y, m = n - i ∧ i ≤ n ∧ s.τ c = .int K i ∧ ev s.τ bx = .int K n ∧ Rg s.τ (R i y) ∧ P i y s.H) ?_ n _ ⟨0, y, by omega, by omega, hc, hb, h0, hp⟩)
  rintro m ⟨τ, H⟩ ⟨i, y, hm, hi, hc, hb, hr, hP⟩
  simp only at hc hb hr hP
  have hop : ∀ t, decide ((i : Int) < n) = t → insL (callL E) [⟨some d, .bin .lss (.t c) bx, none⟩] ⟨τ, H⟩ = some ⟨upd τ d (.bool t), H⟩ := fun t ht => by
    subst ht
    simp only [insL, ins, wanted, aop_bin, hb]
    simp [hc]
  by_cases hlt : i < n
  · refine wa_sr ⟨⟨upd τ d (.bool true), H⟩, hop true (by simpa using hlt), ?_⟩
    refine wa_if (t := true) (by simp) (fun _ => ?_) (fun h => by cases h)
    have h1 := step i y (upd τ d (.bool true)) H hlt (by simp [q5, hc]) (by rw [ev_upd b2]; exact hb) (hr.upd fun p hp => (hR i y p hp).2.1) hP
    obtain ⟨ex, s1, h2, h3⟩ := wa_block h1
    cases ex with
    | normal =>
      obtain ⟨h4, h5, y', h6, h7⟩ := h3
      obtain ⟨τ1, H1⟩ := s1
      simp only at h4 h5 h6 h7
      refine wa_seq ⟨.normal, ⟨τ1, H1⟩, h2, ?_⟩
      refine wa_regs ⟨⟨upd (upd τ1 e (.int K ((i : Int) + 1))) c (.int K ((i : Int) + 1)), H1⟩, by simp [h4, hw i hlt], ?_⟩
      exact ⟨n - (i + 1), by omega, i + 1, y', rfl, by omega, by simp, by simp only; rw [ev_upd b1, ev_upd b3]; exact h5, (h6.upd fun p hp => (hR _ _ p hp).2.2).upd fun p hp => (hR _ _ p hp).1, h7⟩
    | exit j => exact wa_seq ⟨.exit j, s1, h2, h3⟩
    | ret => exact wa_seq ⟨.ret, s1, h2, h3⟩
  · have hin : i = n := by omega
    subst hin
    refine wa_sr ⟨⟨upd τ d (.bool false), H⟩, hop false (by simp), ?_⟩
    refine wa_if (t := false) (by simp) (fun h => by cases h) (fun _ => wa_ex ?_)
    simp only [After, InBlk, if_true]
    exact last y _ H (hr.upd fun p hp => (hR _ _ p hp).2.1) hP

/-! ### Heaps -/
/-- Behind a heap: what is owned; what lay there before is as it was. -/
structure Hp (H0 H : Heap) (L : List (Nat × Blk)) : Prop where
  le : H0.length ≤ H.length
  old : ∀ k, k < H0.length → H[k]? = H0[k]?
  own : ∀ p, p ∈ L → H0.length ≤ p.1 ∧ H[p.1]? = some p.2
  nd : (L.map Prod.fst).Nodup
namespace Hp
variable {H0 H H' : Heap} {L L' : List (Nat × Blk)} {k : Nat} {b b' : Blk}
theorem refl (H : Heap) : Hp H H [] := ⟨Nat.le_refl _, fun _ _ => rfl, fun p hp => by simp at hp, List.nodup_nil⟩
theorem r (h : Hp H0 H L) (i : Nat) (hi : L[i]? = some (k, b)) : H[k]? = some b := (h.own _ (List.mem_of_getElem? hi)).2
theorem ge (h : Hp H0 H L) (i : Nat) (hi : L[i]? = some (k, b)) : H0.length ≤ k := (h.own _ (List.mem_of_getElem? hi)).1
theorem lt (h : Hp H0 H L) (i : Nat) (hi : L[i]? = some (k, b)) : k < H.length := (List.getElem?_eq_some_iff.1 (h.r i hi)).1
theorem a (h : Hp H0 H L) (b : Blk) : Hp H0 (H ++ [b]) ((H.length, b) :: L) := by
  refine ⟨by simp; have := h.le; omega, fun k hk => by rw [List.getElem?_append_left (by have := h.le; omega)]; exact h.old k hk, fun p hp => ?_, ?_⟩
  · rcases List.mem_cons.1 hp with rfl | hp
    · exact ⟨h.le, by simp⟩
    · obtain ⟨h1, h2⟩ := h.own p hp
      exact ⟨h1, by rw [List.getElem?_append_left (List.getElem?_eq_some_iff.1 h2).1]; exact h2⟩
  · rw [List.map_cons, List.nodup_cons]
    refine ⟨fun hm => ?_, h.nd⟩
    obtain ⟨p, hp, he⟩ := List.mem_map.1 hm
    have := (List.getElem?_eq_some_iff.1 (h.own p hp).2).1
    simp only at he
    omega
theorem w (h : Hp H0 H L) (i : Nat) (hi : L[i]? = some (k, b)) (b' : Blk) : Hp H0 (H.set k b') (L.set i (k, b')) := by
  have hk := h.lt i hi
  have hg := h.ge i hi
  have hlt : i < L.length := (List.getElem?_eq_some_iff.1 hi).1
  have hmap : (L.set i (k, b')).map Prod.fst = L.map Prod.fst := by
    rw [List.map_set]
    refine List.ext_getElem? fun j => ?_
    by_cases e : i = j
    · subst e
      rw [List.getElem?_set_self (by simpa using hlt)]
      simp [hi]
    · rw [List.getElem?_set_ne e]
  refine ⟨by simpa using h.le, fun j hj => by rw [List.getElem?_set_ne (by omega)]; exact h.old j hj, fun p hp => ?_, by rw [hmap]; exact h.nd⟩
  obtain ⟨j, hj⟩ := List.mem_iff_getElem?.1 hp
  by_cases e : i = j
  · subst e
    rw [List.getElem?_set_self hlt] at hj
    cases hj
    exact ⟨hg, List.getElem?_set_self hk⟩
  · rw [List.getElem?_set_ne e] at hj
    obtain ⟨h1, h2⟩ := h.own p (List.mem_of_getElem? hj)
    refine ⟨h1, ?_⟩
    have hne : k ≠ p.1 := fun he => by
      have h3 := h.nd
      have hjl : j < L.length := (List.getElem?_eq_some_iff.1 hj).1
      have h4 := List.pairwise_iff_getElem.1 h3
      have hi' : L[i] = (k, b) := by rw [List.getElem?_eq_getElem hlt] at hi; simpa using hi
      have hj' : L[j] = p := by rw [List.getElem?_eq_getElem hjl] at hj; simpa using hj
      rcases Nat.lt_or_gt_of_ne e with hij | hij
      · exact h4 i j (by simpa using hlt) (by simpa using hjl) hij (by simp [hi', hj', he])
      · exact h4 j i (by simpa using hjl) (by simpa using hlt) hij (by simp [hi', hj', he])
    rw [List.getElem?_set_ne hne]
    exact h2
theorem x (h : Hp H0 H L) (h' : Hp H H' L') : Hp H0 H' (L' ++ L) := by
  refine ⟨Nat.le_trans h.le h'.le, fun k hk => by rw [h'.old k (by have := h.le; omega)]; exact h.old k hk, fun p hp => ?_, ?_⟩
  · rcases List.mem_append.1 hp with hp | hp
    · obtain ⟨h1, h2⟩ := h'.own p hp
      exact ⟨by have := h.le; omega, h2⟩
    · obtain ⟨h1, h2⟩ := h.own p hp
      exact ⟨h1, by rw [h'.old _ (List.getElem?_eq_some_iff.1 h2).1]; exact h2⟩
  · rw [List.map_append, List.nodup_append]
    refine ⟨h'.nd, h.nd, fun a ha b hb => ?_⟩
    obtain ⟨p, hp, rfl⟩ := List.mem_map.1 ha
    obtain ⟨q, hq, rfl⟩ := List.mem_map.1 hb
    have h1 := (h'.own p hp).1
    have h2 := (List.getElem?_eq_some_iff.1 (h.own q hq).2).1
    omega
theorem sub (h : Hp H0 H L) (hs : L'.Sublist L) : Hp H0 H L' := ⟨h.le, h.old, fun p hp => h.own p (hs.subset hp), (hs.map _).nodup h.nd⟩
theorem perm (h : Hp H0 H L) (hs : L'.Perm L) : Hp H0 H L' := ⟨h.le, h.old, fun p hp => h.own p (hs.subset hp), (hs.map _).nodup_iff.2 h.nd⟩
theorem r0 {p : Nat × Blk} (h : Hp H0 H (p :: L)) : H[p.1]? = some p.2 := h.r 0 rfl
theorem r1 {p q : Nat × Blk} (h : Hp H0 H (q :: p :: L)) : H[p.1]? = some p.2 := h.r 1 rfl
theorem r2 {p q1 q2 : Nat × Blk} (h : Hp H0 H (q1 :: q2 :: p :: L)) : H[p.1]? = some p.2 := h.r 2 rfl
theorem r3 {p q1 q2 q3 : Nat × Blk} (h : Hp H0 H (q1 :: q2 :: q3 :: p :: L)) : H[p.1]? = some p.2 := h.r 3 rfl
theorem r4 {p q1 q2 q3 q4 : Nat × Blk} (h : Hp H0 H (q1 :: q2 :: q3 :: q4 :: p :: L)) : H[p.1]? = some p.2 := h.r 4 rfl
theorem w0 (h : Hp H0 H ((k, b) :: L)) (b' : Blk) : Hp H0 (H.set k b') ((k, b') :: L) := h.w 0 rfl b'
theorem w1 {p : Nat × Blk} (h : Hp H0 H (p :: (k, b) :: L)) (b' : Blk) : Hp H0 (H.set k b') (p :: (k, b') :: L) := h.w 1 rfl b'
theorem w2 {p q : Nat × Blk} (h : Hp H0 H (p :: q :: (k, b) :: L)) (b' : Blk) : Hp H0 (H.set k b') (p :: q :: (k, b') :: L) := h.w 2 rfl b'
theorem w3 {p q r : Nat × Blk} (h : Hp H0 H (p :: q :: r :: (k, b) :: L)) (b' : Blk) : Hp H0 (H.set k b') (p :: q :: r :: (k, b') :: L) := h.w 3 rfl b'
theorem w4 {p q r t : Nat × Blk} (h : Hp H0 H (p :: q :: r :: t :: (k, b) :: L)) (b' : Blk) : Hp H0 (H.set k b') (p :: q :: r :: t :: (k, b') :: L) := h.w 4 rfl b'
theorem tl {p : Nat × Blk} (h : Hp H0 H (p :: L)) : Hp H0 H L := h.sub (List.sublist_cons_self _ _)
end Hp

theorem Rw.lt {H : Heap} {sz len : Nat} {x : V} {cs : List V} (h : Rw H sz x len cs) : ∀ k, x.blk? = some k → k < H.length := by
  intro k hk
  have h2 := h.cells
  cases x <;> simp [V.blk?] at hk
  all_goals subst hk
  case ptr => simp [cellsOf] at h2
  case map => simp [cellsOf] at h2
  simp only [cellsOf] at h2
  obtain ⟨⟨b, hb, _⟩, _⟩ := rdn_at h2
  exact (List.getElem?_eq_some_iff.1 hb).1
theorem Hp.rw {H0 H : Heap} {L : List (Nat × Blk)} (h : Hp H0 H L) {sz len : Nat} {x : V} {cs : List V} (hx : Rw H0 sz x len cs) : Rw H sz x len cs := hx.frame fun k hk => h.old k (hx.lt k hk)
theorem Hp.il {H0 H : Heap} {L : List (Nat × Blk)} (h : Hp H0 H L) {q : IntKind} {x : V} {zs : List Int} (hx : IL q H0 x zs) : IL q H x zs := h.rw hx
theorem Hp.bl {H0 H : Heap} {L : List (Nat × Blk)} (h : Hp H0 H L) {x : V} {zs : List Bool} (hx : BL H0 x zs) : BL H x zs := h.rw hx
theorem SlG.lt {H : Heap} {sz : Nat} {x : V} (h : SlG H sz x) : ∀ k, x.blk? = some k → k < H.length := by
  intro k hk
  cases x <;> simp [V.blk?] at hk
  all_goals subst hk
  case ptr => exact h.elim
  case map => exact h.elim
  obtain ⟨_, cs, m, h2, _⟩ := h
  exact (List.getElem?_eq_some_iff.1 h2).1
theorem Hp.slG {H0 H : Heap} {L : List (Nat × Blk)} (h : Hp H0 H L) {sz : Nat} {x : V} (hx : SlG H0 sz x) : SlG H sz x := hx.frame fun k hk => h.old k (hx.lt k hk)

/-! ### Rows that are owned -/
theorem IL.own {q : IntKind} {H : Heap} {k c : Nat} {zs : List Int} {m : Mode} (h : H[k]? = some (.cells (zs.map (.int q)) m)) : IL q H (.sl k 0 zs.length c) zs := by
  refine ⟨rfl, ?_⟩
  simp only [cellsOf, rdn, h]
  rw [if_pos (by simp)]
  simp only [List.drop_zero, Nat.mul_one]
  rw [List.take_of_length_le (by simp)]
theorem BL.own {H : Heap} {k c : Nat} {zs : List Bool} {m : Mode} (h : H[k]? = some (.cells (zs.map .bool) m)) : BL H (.sl k 0 zs.length c) zs := by
  refine ⟨rfl, ?_⟩
  simp only [cellsOf, rdn, h]
  rw [if_pos (by simp)]
  simp only [List.drop_zero, Nat.mul_one]
  rw [List.take_of_length_le (by simp)]
theorem rdI {q : IntKind} {H : Heap} {k : Nat} {zs : List Int} {m : Mode} (h : H[k]? = some (.cells (zs.map (.int q)) m)) {i : Nat} (hi : i < zs.length) : rd H k i = some (.int q (zs.getD i 0)) := by
  simp [rd, h, hi]
theorem rdB {H : Heap} {k : Nat} {zs : List Bool} {m : Mode} (h : H[k]? = some (.cells (zs.map .bool) m)) {i : Nat} (hi : i < zs.length) : rd H k i = some (.bool (zs.getD i false)) := by
  simp [rd, h, hi]
theorem wrI {q : IntKind} {H : Heap} {k : Nat} {zs : List Int} {m : Mode} (h : H[k]? = some (.cells (zs.map (.int q)) m)) (hm : m.wr = true) {i : Nat} (hi : i < zs.length) (v : Int) :
    wr H k i [.int q v] = some (H.set k (.cells ((zs.set i v).map (.int q)) m)) := by
  rw [List.map_set]
  exact wr1 h hm (by simpa using hi) rfl
theorem wrB {H : Heap} {k : Nat} {zs : List Bool} {m : Mode} (h : H[k]? = some (.cells (zs.map .bool) m)) (hm : m.wr = true) {i : Nat} (hi : i < zs.length) (v : Bool) :
    wr H k i [.bool v] = some (H.set k (.cells ((zs.set i v).map .bool) m)) := by
  rw [List.map_set]
  exact wr1 h hm (by simpa using hi) rfl

/-! ### Rows that grow -/
/-- The block of a row that append made. -/
def gb (sz : Nat) (x : V) (cs : List V) : List (Nat × Blk) := match x with | .sl k _ _ _ => [(k, .cells cs (.gr sz))] | _ => []
/-- A row that append made. -/
def Gr (x : V) (n : Nat) : Prop := (x = .nils ∧ n = 0) ∨ ∃ k, x = .sl k 0 n n

theorem append_ok {H0 H : Heap} {L : List (Nat × Blk)} {sz by' n m : Nat} {x y : V} {cs ys : List V} (h : Hp H0 H (gb sz x cs ++ L)) (hg : Gr x n) (hc : cs.length = n * sz) (hy : lenOf y = some m) (hys : cellsOf H sz y = some ys) (hs : ys.all V.scalar = true)
    (hm : 0 < m) (hb : (n + m) * by' ≤ 2 ^ 40) (hl : n + m ≤ lim) :
    ∃ x' H', appendv H sz by' x y = some (x', H') ∧ Gr x' (n + m) ∧ Hp H0 H' (gb sz x' (cs ++ ys) ++ L) ∧ H'.length = H.length + 1 := by
  rcases hg with ⟨rfl, rfl⟩ | ⟨k, rfl⟩
  · have hcs : cs = [] := List.eq_nil_of_length_eq_zero (by omega)
    subst hcs
    refine ⟨.sl H.length 0 m m, H ++ [.cells ys (.gr sz)], ?_, .inr ⟨H.length, by simp⟩, ?_, by simp⟩
    · unfold appendv
      simp only [hy, hys, hs]
      rw [if_neg (by simp), if_neg (by omega), if_pos (by rw [Nat.zero_add] at hb hl; exact ⟨hb, hl⟩)]
    · have := h.a (.cells ys (.gr sz))
      simpa [gb] using this
  · have hk := h.r 0 (k := k) (b := .cells cs (.gr sz)) rfl
    refine ⟨.sl H.length 0 (n + m) (n + m), H.set k .dead ++ [.cells (cs ++ ys) (.gr sz)], ?_, .inr ⟨H.length, rfl⟩, ?_, by simp⟩
    · unfold appendv
      simp only [hy, hys, hs]
      rw [if_neg (by simp)]
      simp only [hk]
      rw [if_pos (by omega), if_neg (by omega), if_pos ⟨hb, hl⟩, if_pos ⟨trivial, trivial⟩, List.take_of_length_le (by omega)]
    · have h1 : Hp H0 (H.set k .dead) L := (Hp.w0 (h : Hp H0 H ((k, .cells cs (.gr sz)) :: L)) .dead).tl
      have := h1.a (.cells (cs ++ ys) (.gr sz))
      simpa [gb] using this
/-- One more element: laid in a row of its own, then appended. -/
theorem push_ok {H0 H : Heap} {L : List (Nat × Blk)} {sz by' n : Nat} {x : V} {cs vs : List V} (h : Hp H0 H (gb sz x cs ++ L)) (hg : Gr x n) (hc : cs.length = n * sz) (hv : vs.length = sz) (hs : vs.all V.scalar = true)
    (hb : (n + 1) * by' ≤ 2 ^ 40) (hl : n + 1 ≤ lim) :
    ∃ x' H', appendv (H ++ [.cells vs .ex]) sz by' x (.sl H.length 0 1 1) = some (x', H') ∧ Gr x' (n + 1) ∧ Hp H0 H' (gb sz x' (cs ++ vs) ++ L) ∧ H.length ≤ H'.length := by
  obtain ⟨x', H', h1, h2, h3, h4⟩ := append_ok (h.a (.cells vs .ex)).tl hg hc (y := .sl H.length 0 1 1) (m := 1) (ys := vs) rfl (by simp [cellsOf, rdn, hv]; rw [List.take_of_length_le (by omega)]) hs (by omega) hb hl
  exact ⟨x', H', h1, h2, h3, by rw [h4]; simp; omega⟩
theorem Gr.il {H0 H : Heap} {L : List (Nat × Blk)} {x : V} {n : Nat} {q : IntKind} {zs : List Int} (h : Hp H0 H (gb 1 x (zs.map (.int q)) ++ L)) (hg : Gr x n) (hl : zs.length = n) : IL q H x zs := by
  rcases hg with ⟨rfl, rfl⟩ | ⟨k, rfl⟩
  · have : zs = [] := List.eq_nil_of_length_eq_zero hl
    subst this
    exact ⟨rfl, rfl⟩
  · have := h.r 0 (k := k) (b := .cells (zs.map (.int q)) (.gr 1)) rfl
    subst hl
    exact IL.own this
end Go.Ar
