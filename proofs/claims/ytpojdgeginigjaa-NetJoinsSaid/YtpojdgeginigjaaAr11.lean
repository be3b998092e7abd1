/- All operations but calls of functions: what the abstract run answers, the machine's operation answers. -/
import Derived.Test.YtpojdgeginigjaaAr10
set_option linter.unusedSimpArgs false
set_option linter.unusedVariables false
namespace Go.Ar
open Go.RowKit
variable {P : Program} {B0 : Nat} {w0 : World} {ρ : Rho} {H : Heap} {D : List Nat} {w : World} {nt : Nat} {τ : Nat → V} {a : Act} {call : CallF}

theorem optB_some {α : Type} {o : Option α} {f : α → I} {r : V × Heap} (h : aop call τ H (optB o f) = some r) : ∃ x, o = some x ∧ aop call τ H (f x) = some r := by
  cases o with
  | none => simp [optB, aop] at h
  | some x => exact ⟨x, rfl, h⟩

theorem Res.pureV (hS : Sim P B0 w0 ρ H D w) {v : V} {v' : Value} (hR : R ρ v v') {r : V × Heap} (h : some (v, H) = some r) : Res P B0 w0 D ρ H w (pure (.value v')) r.1 r.2 := by
  cases h; exact ⟨.value v', w, ρ, rfl, .inl ⟨v', rfl, hR⟩, Agree.refl _ _, hS⟩

theorem eqOp_form {t : TypeId} {ne : Bool} {x y : X} {r : V × Heap} (h : aop call τ H (eqOp P t ne x y) = some r) : ∃ e, eqOp P t ne x y = .eq ne e x y := by
  unfold eqOp at h ⊢
  split <;> (try exact ⟨_, rfl⟩)
  · rename_i fs hu
    simp only [hu] at h
    obtain ⟨ks, hk, _⟩ := optB_some h
    exact ⟨_, by rw [hk]; rfl⟩
  · exfalso
    split at h <;> first | (rename_i hn _ hu; exact hn _ hu) | (simp [aop] at h; done) | skip
    all_goals simp_all

set_option maxHeartbeats 1000000 in
theorem op_ok (hS : Sim P B0 w0 ρ H D w) (hτ : RT ρ nt τ a.tmps) (o : Oper) (hnc : ∀ f args, compOp P o ≠ .call f args) {r : V × Heap} (h : aop call τ H (compOp P o) = some r) :
    Res P B0 w0 D ρ H w (execOp a.eval o) r.1 r.2 := by
  obtain ⟨dst, op, type, pos, after, guard⟩ := o
  have E := fun x => ev_ok hτ x
  cases op <;> simp only [compOp] at h hnc <;> (try (simp [aop] at h; done)) <;> simp only [execOp]
  case move x => simp only [aop] at h; exact Res.pureV hS (E x) h
  case assign x => simp only [aop] at h; exact Res.pureV hS (E x) h
  case pick c x y =>
    simp only [aop] at h
    have hc := E c
    cases hcv : ev τ (cX c) <;> simp only [hcv] at h hc <;> (try (cases h; done))
    rename_i b
    rw [hc.bool_inv]
    simp only [asBool, pure_bind]
    cases b
    · exact Res.pureV hS (E y) h
    · exact Res.pureV hS (E x) h
  case alloc t =>
    obtain ⟨zs, hz, h⟩ := optB_some h
    simp only [aop] at h
    cases h
    exact op_alloc hS hz
  case box t x =>
    obtain ⟨n, hn, h⟩ := optB_some h
    simp only [aop] at h
    cases hc : (ev τ (cX x)).cells with
    | none => simp [hc] at h
    | some cs =>
      simp only [hc] at h
      split at h
      · cases h; exact op_box hS (E x) hc
      · cases h
  case build t parts =>
    obtain ⟨zs, hz, h⟩ := optB_some h
    split at h
    · rename_i fields hu
      split at h
      · rename_i hall
        obtain ⟨ps, hps, h⟩ := optB_some h
        simp only [aop, Option.map_eq_some_iff] at h
        obtain ⟨cs, h1, rfl⟩ := h
        exact op_build_struct hS hτ hz hu hall hps h1
      · simp [aop] at h
    · rename_i len e hu
      obtain ⟨n, hn, h⟩ := optB_some h
      simp only [aop, Option.map_eq_some_iff] at h
      obtain ⟨cs, h1, rfl⟩ := h
      exact op_build_array hS hτ hz hu hn h1
    · simp [aop] at h
  case buildSlice t len parts =>
    obtain ⟨e, he, h⟩ := optB_some h
    obtain ⟨n, hn, h⟩ := optB_some h
    obtain ⟨zs, hz, h⟩ := optB_some h
    split at h
    · rename_i hc
      simp only [aop, Option.map_eq_some_iff] at h
      obtain ⟨cs, h1, rfl⟩ := h
      obtain ⟨cs', h2, h3⟩ := op_bslice hS hτ he hn hz hc.2 hc.1 h1
      exact Res.val h3 R.newSl (agree_ext _ _ _) (hS.newCells h2 e)
    · simp [aop] at h
  case load t x =>
    obtain ⟨n, hn, h⟩ := optB_some h
    obtain ⟨g, hg, h⟩ := optB_some h
    simp only [aop] at h
    have hx := E x
    cases hxv : ev τ (cX x) <;> simp only [hxv] at h hx <;> (try (cases h; done))
    rename_i k o
    obtain ⟨v, h1, h2⟩ : ∃ v, (if g then (rdn H k o n).map V.agg else rd H k o) = some v ∧ r = (v, H) := by
      cases g
      · simp only [Bool.false_eq_true, if_false, Option.map_eq_some_iff] at h ⊢
        obtain ⟨v, h1, h2⟩ := h
        exact ⟨v, h1, h2.symm⟩
      · simp only [if_true, Option.map_eq_some_iff] at h ⊢
        obtain ⟨cs, h1, h2⟩ := h
        exact ⟨_, ⟨cs, h1, rfl⟩, h2.symm⟩
    subst h2
    obtain ⟨v', h3, h4⟩ := op_load hS hn hg hx h1
    exact Res.same hS h3 h4
  case store t x v =>
    obtain ⟨n, hn, h⟩ := optB_some h
    simp only [aop] at h
    have hx := E x
    cases hxv : ev τ (cX x) <;> simp only [hxv] at h hx <;> (try (cases h; done))
    rename_i k o
    cases hc : (ev τ (cX v)).cells with
    | none => simp [hc] at h
    | some cs =>
      simp only [hc] at h
      split at h
      · rename_i hl
        simp only [Option.map_eq_some_iff] at h
        obtain ⟨H', h1, rfl⟩ := h
        exact op_store hS hn hx (E v) hc hl h1
      · cases h
  case nilCheck x =>
    simp only [aop] at h
    have hx := E x
    generalize a.eval x = x' at hx
    cases hxv : ev τ (cX x) <;> simp only [hxv] at h hx <;> (try (cases h; done))
    · have hx' := hx
      cases hx; exact Res.pureV hS hx' h
    · have hx' := hx
      cases hx; exact Res.pureV hS hx' h
    · have hx' := hx
      cases hx; exact Res.pureV hS hx' h
  case binOp op t x y yt =>
    split at h
    · rename_i k hu
      simp only [aop, Option.map_eq_some_iff] at h
      obtain ⟨v, h1, rfl⟩ := h
      obtain ⟨v', h2, h3, n1, n2⟩ := binop_ok (P := P) (E x) (E y) h1 w
      refine Res.same hS ?_ h3
      simp only [Sem.run_bind, eqGuard_run n1 n2, Result.andThen_ok]
      exact h2
    · rename_i hni
      cases op <;> (try (simp [aop] at h; done))
      · simp only at h
        obtain ⟨e, hq⟩ := eqOp_form h
        rw [hq] at h
        simp only [aop, Option.map_eq_some_iff] at h
        obtain ⟨b, h1, rfl⟩ := h
        obtain ⟨hg, he, n1, n2, n3, n4⟩ := eqv_ok (x := x) (y := y) hq (E x) (E y) h1 w
        exact Res.same hS (eqv_run (ne := false) hg he n1 n2 n3 n4) (R.bool _)
      · simp only at h
        obtain ⟨e, hq⟩ := eqOp_form h
        rw [hq] at h
        simp only [aop, Option.map_eq_some_iff] at h
        obtain ⟨b, h1, rfl⟩ := h
        obtain ⟨hg, he, n1, n2, n3, n4⟩ := eqv_ok (x := x) (y := y) hq (E x) (E y) h1 w
        exact Res.same hS (eqv_run (ne := true) hg he n1 n2 n3 n4) (R.bool _)
  case unOp op t x =>
    have hx := E x
    cases op <;> simp only [aop] at h <;> (try (cases h; done)) <;> cases hxv : ev τ (cX x) <;> simp only [hxv] at h hx <;> (try (cases h; done))
    · rename_i k n
      cases h
      refine Res.same (v' := .int k (k.wrap (0 - n))) hS ?_ (R.int _ _)
      rw [hx.int_inv]; simp [Op.unary, Op.intArith]
    · rename_i b
      cases h
      refine Res.same (v' := .bool (!b)) hS ?_ (R.bool _)
      rw [hx.bool_inv]; simp [Op.unary]
  case convert src dst x =>
    split at h
    · rename_i k0 k hs hd
      simp only [aop] at h
      have hx := E x
      cases hxv : ev τ (cX x) <;> simp only [hxv] at h hx <;> (try (cases h; done))
      rename_i q n
      cases h
      refine Res.same (v' := .int k (k.wrap n)) hS ?_ (R.int _ _)
      rw [hx.int_inv]; simp [convert, run_underlying hs, run_underlying hd, Conv.intToInt]
    · simp [aop] at h
  case makeFunc fn x y =>
    cases fn <;> simp only [aop] at h <;> (try (cases h; done))
    rename_i f
    cases h
    exact Res.same hS rfl (op_mkfn hτ f x y)
  case makeMap t rsv =>
    cases rsv <;> simp only [aop] at h <;> (try (cases h; done))
    cases h
    have hr : (Instr.makeMap t none).run P w = .ok (.map (some w.heap.size)) (w.alloc (.map #[] 0)) := by simp [Instr.makeMap]
    refine Res.val (ρ' := ext ρ H.length (newLoc w)) hr ?_ (agree_ext _ _ _) (hS.new _ _ _ rfl fun _ => ⟨#[], 0, World.alloc_heap_new w _, hS.sizeLe, rfl, rfl, fun i kv hi => by simp at hi⟩)
    have := @R.map (ext ρ H.length (newLoc w)) H.length (newLoc w) (by simp [ext])
    simpa [newLoc] using this
  case makeSlice t l c =>
    cases l <;> cases c <;> (try (simp [aop] at h; done))
    rename_i l c
    simp only at h
    split at h
    case isFalse => simp [aop] at h
    rename_i hlc
    subst hlc
    obtain ⟨e, he, h⟩ := optB_some h
    split at h
    case h_2 => simp [aop] at h
    rename_i i hi
    split at h
    case isFalse => simp [aop] at h
    rename_i hsz
    obtain ⟨zs, hz, h⟩ := optB_some h
    simp only [aop] at h
    have hx := E (.tmp l)
    simp only [cX] at hx
    cases hxv : ev τ (.t l) <;> simp only [hxv] at h hx <;> (try (cases h; done))
    rename_i k n
    split at h
    case isFalse => cases h
    rename_i hc
    cases h
    obtain ⟨cs', h1, h2⟩ := op_mkslice (kk := k) hS he hi hsz hz hc.1 hc.2.1 hc.2.2
    rw [← hx.int_inv] at h2
    exact Res.val h2 R.newSl (agree_ext _ _ _) (hS.newCells h1 e)
  case slice t x lo hi mx =>
    cases mx <;> simp only at h <;> (try (simp [aop] at h; done))
    obtain ⟨e, he, h⟩ := optB_some h
    obtain ⟨n, hn, h⟩ := optB_some h
    simp only [aop, Option.map_eq_some_iff] at h
    obtain ⟨v, h1, rfl⟩ := h
    have ho : ∀ o : Option Operand, (∀ v, (o.map cX).map (ev τ) = some v → ∃ v', o.map a.eval = some v' ∧ R ρ v v') ∧ ((o.map cX).map (ev τ) = none → o.map a.eval = none) := by
      intro o
      cases o with
      | none => exact ⟨fun v hv => by simp at hv, fun _ => rfl⟩
      | some q => exact ⟨fun v hv => ⟨_, rfl, by simp at hv; subst hv; exact E q⟩, fun hv => by simp at hv⟩
    obtain ⟨v', h2, h3⟩ := op_slc hS he hn (E x) (ho lo).1 (ho lo).2 (ho hi).1 (ho hi).2 h1
    exact Res.same hS h2 h3
  case fieldAddr t x f =>
    split at h
    case h_2 => simp [aop] at h
    rename_i fs hu
    split at h
    case h_2 => simp [aop] at h
    rename_i fd hfd
    split at h
    case h_2 => simp [aop] at h
    rename_i n hn
    split at h
    case isTrue => simp [aop] at h
    rename_i hn0
    simp only [aop] at h
    have hx := E x
    cases hxv : ev τ (cX x) <;> simp only [hxv] at h hx <;> (try (cases h; done))
    rename_i k o
    cases h
    generalize a.eval x = x' at hx
    cases hx with
    | ptr hL =>
      rename_i L
      refine Res.same (v' := .pointer (some ⟨L.blk, L.base + (o + fd.offset), none⟩)) hS ?_ (R.ptr hL)
      simp [Instr.fieldAt, run_underlying hu, hfd, Instr.sureAddr, fieldPlace, tsize_run hn, hn0, add_at, Nat.add_assoc]
  case field t x f =>
    split at h
    case h_2 => simp [aop] at h
    rename_i fs hu
    split at h
    case h_2 => simp [aop] at h
    rename_i fd hfd
    obtain ⟨n, hn, h⟩ := optB_some h
    obtain ⟨g, hg, h⟩ := optB_some h
    simp only [aop] at h
    have hx := E x
    cases hxv : ev τ (cX x) <;> simp only [hxv] at h hx <;> (try (cases h; done))
    rename_i cs
    obtain ⟨cs', hcs, hl⟩ := hx.toAgg
    rw [hcs]
    cases g
    · simp only [Bool.false_eq_true, if_false, Option.map_eq_some_iff] at h
      obtain ⟨v, h1, rfl⟩ := h
      obtain ⟨v', h2, h3⟩ := hl.get h1
      refine Res.same (v' := v') hS ?_ h3
      have h2' : cs'[fd.offset]? = some v' := by simpa using h2
      simp [Instr.field, run_underlying hu, hfd, asAgg, part, tagg_run hg, h2']
    · simp only [if_true] at h
      cases h
      refine Res.same (v' := .agg (cs'.extract fd.offset (fd.offset + n))) hS ?_ (R.ofAgg ?_)
      · simp [Instr.field, run_underlying hu, hfd, asAgg, part, tagg_run hg, tsize_run hn]
      · have := (hl.drop fd.offset).take n
        simpa [Array.toList_extract, List.extract_eq_take_drop] using this
  case indexAddr t x i =>
    obtain ⟨e, he, h⟩ := optB_some h
    obtain ⟨n, hn, h⟩ := optB_some h
    simp only [aop] at h
    have hx := E x
    have hi := E i
    cases hxv : ev τ (cX x) <;> simp only [hxv] at h hx <;> (try (cases h; done))
    rename_i k o len cap
    cases hiv : ev τ (cX i) <;> simp only [hiv] at h hi <;> (try (cases h; done))
    rename_i q m
    split at h
    case isFalse => cases h
    rename_i hb
    cases h
    rw [hi.int_inv]
    generalize a.eval x = x' at hx
    cases hx with
    | sl hL hc =>
      rename_i c' L
      refine Res.same (v' := .pointer (some ⟨L.blk, L.base + (o + m.toNat * n), none⟩)) hS ?_ (R.ptr hL)
      rw [run_indexAt_slice w t _ _ _ _ _ (telem_elem he).1, if_pos hb, (telem_elem he).2, tsize_run hn]
      simp [add_at, Nat.add_assoc]
  case index t x i =>
    split at h
    case h_2 => simp [aop] at h
    rename_i len e hu
    obtain ⟨n, hn, h⟩ := optB_some h
    obtain ⟨g, hg, h⟩ := optB_some h
    simp only [aop] at h
    have hx := E x
    have hi := E i
    cases hxv : ev τ (cX x) <;> simp only [hxv] at h hx <;> (try (cases h; done))
    rename_i cs
    cases hiv : ev τ (cX i) <;> simp only [hiv] at h hi <;> (try (cases h; done))
    rename_i q m
    split at h
    case isFalse => cases h
    rename_i hb
    rw [hi.int_inv]
    obtain ⟨cs', hcs, hl⟩ := hx.toAgg
    rw [hcs]
    cases g
    · simp only [Bool.false_eq_true, if_false, Option.map_eq_some_iff] at h
      obtain ⟨v, h1, rfl⟩ := h
      obtain ⟨v', h2, h3⟩ := hl.get h1
      refine Res.same (v' := v') hS ?_ h3
      have h2' : cs'[m.toNat * n]? = some v' := by simpa using h2
      simp [Instr.index, asIntOf, run_underlying hu, hb, tsize_run hn, part, tagg_run hg, h2']
    · simp only [if_true] at h
      cases h
      refine Res.same (v' := .agg (cs'.extract (m.toNat * n) (m.toNat * n + n))) hS ?_ (R.ofAgg ?_)
      · simp [Instr.index, asIntOf, run_underlying hu, hb, tsize_run hn, part, tagg_run hg]
      · have := (hl.drop (m.toNat * n)).take n
        simpa [Array.toList_extract, List.extract_eq_take_drop] using this
  case lookup t m k ok =>
    split at h
    case h_2 => simp [aop] at h
    rename_i kt et hu
    obtain ⟨kk, hk, h⟩ := optB_some h
    obtain ⟨z, hz, h⟩ := optB_some h
    simp only [aop] at h
    split at h
    case h_2 => cases h
    rename_i es hes
    split at h
    · rename_i j v hf
      cases h
      obtain ⟨v', h1, h2⟩ := op_lookup hS hu hk hz (E m) (E k) hes hf ok
      exact Res.same hS h1 h2
    · rename_i hf
      cases h
      obtain ⟨v', h1, h2⟩ := op_lookup hS hu hk hz (E m) (E k) hes hf ok
      exact Res.same hS h1 h2
    · cases h
  case mapUpdate t m k v =>
    split at h
    case h_2 => simp [aop] at h
    rename_i kt et hu
    obtain ⟨kk, hk, h⟩ := optB_some h
    simp only [aop] at h
    have hm := E m
    cases hmv : ev τ (cX m) <;> simp only [hmv] at h hm <;> (try (cases h; done))
    rename_i b
    split at h
    case h_2 => cases h
    rename_i es hes
    split at h
    · rename_i j u hf
      cases h
      obtain ⟨w', h1, h2⟩ := op_mapupd hS hu hk hm (E k) (E v) hes hf
      exact Res.unit h1 h2
    · rename_i hf
      cases h
      obtain ⟨w', h1, h2⟩ := op_mapupd hS hu hk hm (E k) (E v) hes hf
      exact Res.unit h1 h2
    · cases h
  case mapEntry t m k =>
    split at h
    case h_2 => simp [aop] at h
    rename_i kt et hu
    obtain ⟨kk, hk, h⟩ := optB_some h
    obtain ⟨z, hz, h⟩ := optB_some h
    simp only [aop] at h
    have hm := E m
    cases hmv : ev τ (cX m) <;> simp only [hmv] at h hm <;> (try (cases h; done))
    rename_i b
    split at h
    case h_2 => cases h
    rename_i es hes
    split at h
    · rename_i j u hf
      cases h
      obtain ⟨v', w', h1, h2, h3⟩ := op_mapent hS hu hk hz hm (E k) hes hf
      exact Res.val h1 h2 (Agree.refl _ _) h3
    · rename_i hf
      cases h
      obtain ⟨v', w', h1, h2, h3⟩ := op_mapent hS hu hk hz hm (E k) hes hf
      exact Res.val h1 h2 (Agree.refl _ _) h3
    · cases h
  case entryStore t m s v =>
    simp only [aop] at h
    have hm := E m
    have hs := E s
    cases hmv : ev τ (cX m) <;> simp only [hmv] at h hm <;> (try (cases h; done))
    rename_i b
    cases hsv : ev τ (cX s) <;> simp only [hsv] at h hs <;> (try (cases h; done))
    rename_i q n
    split at h
    case h_2 => cases h
    rename_i es hes
    split at h
    case h_2 => cases h
    rename_i e0 he0
    split at h
    case isFalse => cases h
    rename_i h0
    cases h
    rw [hs.int_inv]
    obtain ⟨w', h1, h2⟩ := op_entst (t := t) (q := q) hS hm (E v) hes he0 h0
    exact Res.unit h1 h2
  case extract x j =>
    simp only [aop] at h
    have hx := E x
    cases hxv : ev τ (cX x) <;> simp only [hxv] at h hx <;> (try (cases h; done))
    rename_i vs
    simp only [Option.map_eq_some_iff] at h
    obtain ⟨v, h1, rfl⟩ := h
    obtain ⟨vs', hvs, hl⟩ := hx.toTup
    obtain ⟨v', h2, h3⟩ := hl.get h1
    rw [hvs]
    refine Res.same (v' := v') hS ?_ h3
    have h2' : vs'[j]? = some v' := by simpa using h2
    simp [Instr.extract, h2']
  case call c =>
    obtain ⟨callee, args, argTypes⟩ := c
    cases callee with
    | value f => exact absurd rfl (hnc _ _)
    | invoke r m => simp [aop] at h
    | builtin b =>
      simp only at h
      have hdone : ∀ (s : Sem Value) , (execOp a.eval { dst := dst, op := .call { callee := .builtin b, args := args, argTypes := argTypes }, type := type, pos := pos, after := after, guard := guard }).run P w = (do pure (.value (← s)) : Sem Next).run P w → Res P B0 w0 D ρ H w (do pure (.value (← s))) r.1 r.2 →
          Res P B0 w0 D ρ H w (execOp a.eval { dst := dst, op := .call { callee := .builtin b, args := args, argTypes := argTypes }, type := type, pos := pos, after := after, guard := guard }) r.1 r.2 := by
        intro s hs hr
        obtain ⟨nx, w', ρ', h1, h2⟩ := hr
        exact ⟨nx, w', ρ', hs.trans h1, h2⟩
      obtain ⟨args⟩ := args
      obtain ⟨argTypes⟩ := argTypes
      simp only at h
      split at h
      · -- len
        rename_i x t
        refine hdone (Builtin.len_ #[t] type #[a.eval x]) (by simp [execOp, resolve, invoke, builtin]) ?_
        have hx := E x
        generalize a.eval x = x' at hx
        split at h
        · rename_i e hu
          simp only [aop] at h
          cases hxv : ev τ (cX x) <;> simp only [hxv] at h hx <;> (try (cases h; done))
          · cases h; cases hx
            exact Res.same (v' := goInt 0) hS (by simp [Builtin.len_, run_underlying hu]) (R.int _ _)
          · cases h; cases hx
            exact Res.same (v' := goInt 0) hS (by simp [Builtin.len_, run_underlying hu]) (R.int _ _)
          · cases h; cases hx
            exact Res.same (v' := goInt _) hS (by simp [Builtin.len_, run_underlying hu]) (R.int _ _)
        · rename_i kt et hu
          simp only [aop, Option.map_eq_some_iff] at h
          obtain ⟨es, hes, rfl⟩ := h
          cases hxv : ev τ (cX x) <;> simp only [hxv, mapOf] at hes hx <;> (try (cases hes; done))
          · cases hes; cases hx
            exact Res.same (v' := goInt 0) hS (by simp [Builtin.len_, run_underlying hu]) (R.int _ _)
          · rename_i k
            obtain ⟨_, L, en, cl, h1, h2, _, h4⟩ := mp_of hS hes
            cases hx with
            | map hL =>
              rw [hL] at h1; cases h1
              refine Res.same (v' := goInt en.size) hS (by simp [Builtin.len_, run_underlying hu, getMap_run h2]) ?_
              rw [h4.1]; exact R.int _ _
        · simp [aop] at h
      · -- append
        rename_i x y t u
        obtain ⟨e, he, hq⟩ := optB_some h
        clear h
        split at hq
        case h_2 => simp [aop] at hq
        rename_i i zs hi hz
        split at hq
        case isFalse => simp [aop] at hq
        rename_i hc
        obtain ⟨c1, c2, c3⟩ := hc
        subst c3
        refine hdone (Builtin.append_ #[u, u] type #[a.eval x, a.eval y]) (by simp [execOp, resolve, invoke, builtin]) ?_
        have hq : appendv H i.size i.bytes (ev τ (cX x)) (ev τ (cX y)) = some (r.1, r.2) := hq
        obtain ⟨v', w', ρ', h1, h2, h3, h4⟩ := op_append (ty := type) hS he hi c1 c2 hz (E x) (E y) hq
        exact Res.val h1 h2 h3 h4
      · -- copy
        rename_i x y t u
        obtain ⟨e, he, h⟩ := optB_some h
        obtain ⟨n, hn, h⟩ := optB_some h
        refine hdone (Builtin.copy_ #[t, u] type #[a.eval x, a.eval y]) (by simp [execOp, resolve, invoke, builtin]) ?_
        simp only [aop] at h
        split at h
        case h_2 => cases h
        rename_i ln lm hln hlm
        split at h
        case h_2 => cases h
        rename_i ys hys
        have hx := E x
        cases hxv : ev τ (cX x) <;> simp only [hxv] at h hx hln <;> (try (cases h; done))
        · cases h
          generalize a.eval x = x' at hx
          cases hx
          exact Res.same (v' := goInt 0) hS (op_copy_nil hS he hn (E y) hlm hys) (R.int _ _)
        · rename_i k o len cap
          simp only [Option.map_eq_some_iff] at h
          obtain ⟨H', hw, rfl⟩ := h
          simp [lenOf] at hln; subst hln
          obtain ⟨w', h1, h2⟩ := op_copy (u := u) (ty := type) hS he hn hx (E y) rfl hlm hys rfl hw
          exact Res.val (v' := goInt (min lm len : Nat)) h1 (by rw [show (min (lm : Int) (len : Int)) = ((min lm len : Nat) : Int) by omega]; exact R.int _ _) (Agree.refl _ _) h2
      · -- min
        rename_i ts x y
        refine hdone (Builtin.min_ ⟨argTypes⟩ type #[a.eval x, a.eval y]) (by simp [execOp, resolve, invoke, builtin]) ?_
        simp only [aop] at h
        have hx := E x
        have hy := E y
        cases hxv : ev τ (cX x) <;> simp only [hxv] at h hx <;> (try (cases h; done))
        cases hyv : ev τ (cX y) <;> simp only [hyv] at h hy <;> (try (cases h; done))
        split at h
        case isFalse => cases h
        rename_i hkk; subst hkk
        cases h
        rw [hx.int_inv, hy.int_inv]
        exact Res.same hS (by simp [Builtin.min_, Builtin.min2]) (R.int _ _)
      · -- max
        rename_i ts x y
        refine hdone (Builtin.max_ ⟨argTypes⟩ type #[a.eval x, a.eval y]) (by simp [execOp, resolve, invoke, builtin]) ?_
        simp only [aop] at h
        have hx := E x
        have hy := E y
        cases hxv : ev τ (cX x) <;> simp only [hxv] at h hx <;> (try (cases h; done))
        cases hyv : ev τ (cX y) <;> simp only [hyv] at h hy <;> (try (cases h; done))
        split at h
        case isFalse => cases h
        rename_i hkk; subst hkk
        cases h
        rw [hx.int_inv, hy.int_inv]
        exact Res.same hS (by simp [Builtin.max_, Builtin.max2]) (R.int _ _)
      · -- clear
        rename_i x t
        obtain ⟨e, he, h⟩ := optB_some h
        obtain ⟨n, hn, h⟩ := optB_some h
        obtain ⟨zs, hz, h⟩ := optB_some h
        split at h
        case isFalse => simp [aop] at h
        rename_i h0
        refine hdone (Builtin.clear_ #[t] type #[a.eval x]) (by simp [execOp, resolve, invoke, builtin]) ?_
        simp only [aop] at h
        have hx := E x
        have htup : R ρ (.tup []) (.tuple #[]) := R.ofTup (RL.nil _)
        cases hxv : ev τ (cX x) <;> simp only [hxv] at h hx <;> (try (cases h; done))
        · cases h
          generalize a.eval x = x' at hx
          cases hx
          exact Res.same hS (op_clear_nil he w) htup
        · rename_i k o len cap
          split at h
          · rename_i hl0; subst hl0
            cases h
            exact Res.same hS (op_clear0 he hx w) htup
          · rename_i hl0
            simp only [Option.map_eq_some_iff] at h
            obtain ⟨H', hw, rfl⟩ := h
            obtain ⟨w', h1, h2⟩ := op_clear (ty := type) hS he hz hn h0 hx hl0 hw
            exact Res.val h1 htup (Agree.refl _ _) h2
      · simp [aop] at h
end Go.Ar
