/- Symbolic runs: the rules that simp is told; rows of cells, and what keeps them. -/
import Derived.Test.YtpojdgeginigjaaAr22
set_option linter.unusedSimpArgs false
set_option linter.unusedVariables false
namespace Go.Ar

theorem put_some (τ : Nat → V) (d : Nat) (v : V) : put τ (some d) v = upd τ d v := rfl
theorem put_none (τ : Nat → V) (v : V) : put τ none v = τ := rfl
theorem upd_at (τ : Nat → V) (d t : Nat) (v : V) : upd τ d v t = cond (t == d) v (τ t) := rfl
attribute [simp] put_some put_none upd_at execL_seq execL_reg execL_ret execL_skip execL_exit execL_block insL ins wanted ev andThen unblk binop finish resL res1 pack args0 eqv hiOf loOf

theorem aop_len (call : CallF) (τ : Nat → V) (H : Heap) (x : X) : aop call τ H (.len x) = (lenOf (ev τ x)).map fun n => (.int .i64 n, H) := by
  simp only [aop]
  cases ev τ x <;> rfl
attribute [simp] aop_len
theorem lenAt_nils : lenOf .nils = some 0 := rfl
theorem lenAt_es : lenOf .es = some 0 := rfl
theorem lenAt_sl (k o n c : Nat) : lenOf (.sl k o n c) = some n := rfl
theorem cells_bool (b : Bool) : (V.bool b).cells = some [.bool b] := rfl
theorem cells_int (k : IntKind) (n : Int) : (V.int k n).cells = some [.int k n] := rfl
theorem cells_nilp : V.nilp.cells = some [.nilp] := rfl
theorem cells_ptr (k o : Nat) : (V.ptr k o).cells = some [.ptr k o] := rfl
theorem cells_nils : V.nils.cells = some [.nils] := rfl
theorem cells_es : V.es.cells = some [.es] := rfl
theorem cells_sl (k o n c : Nat) : (V.sl k o n c).cells = some [.sl k o n c] := rfl
theorem cells_nilm : V.nilm.cells = some [.nilm] := rfl
theorem cells_map (k : Nat) : (V.map k).cells = some [.map k] := rfl
theorem cells_nilf : V.nilf.cells = some [.nilf] := rfl
theorem cells_fn (f : Nat) (a b : List V) : (V.fn f a b).cells = some [.fn f a b] := rfl
theorem cells_yld (k : Nat) : (V.yld k).cells = some [.yld k] := rfl
theorem cells_agg (cs : List V) : (V.agg cs).cells = some cs := rfl
attribute [simp] lenAt_nils lenAt_es lenAt_sl cells_bool cells_int cells_nilp cells_ptr cells_nils cells_es cells_sl cells_nilm cells_map cells_nilf cells_fn cells_yld cells_agg
theorem aop_mv (call : CallF) (τ : Nat → V) (H : Heap) (x : X) : aop call τ H (.mv x) = (some (ev τ x, H)) := rfl
theorem aop_pick (call : CallF) (τ : Nat → V) (H : Heap) (c : X) (a : X) (b : X) : aop call τ H (.pick c a b) = (match ev τ c with | .bool t => some (cond t (ev τ a) (ev τ b), H) | _ => none) := rfl
theorem aop_alloc (call : CallF) (τ : Nat → V) (H : Heap) (zs : List V) : aop call τ H (.alloc zs) = (some (.ptr H.length 0, H ++ [.cells zs .ex])) := rfl
theorem aop_box (call : CallF) (τ : Nat → V) (H : Heap) (n : Nat) (x : X) : aop call τ H (.box n x) = (match (ev τ x).cells with | some cs => if cs.length = n then some (.ptr H.length 0, H ++ [.cells cs .ex]) else none | none => none) := rfl
theorem aop_build (call : CallF) (τ : Nat → V) (H : Heap) (zs : List V) (ps : List (Nat × Nat × X)) : aop call τ H (.build zs ps) = ((fillc zs (ps.map fun p => (p.1, p.2.1, ev τ p.2.2))).map fun cs => (.agg cs, H)) := rfl
theorem aop_bslice (call : CallF) (τ : Nat → V) (H : Heap) (len : Nat) (size : Nat) (zs : List V) (ps : List (Nat × X)) : aop call τ H (.bslice len size zs ps) = ((fillc zs (ps.map fun p => (p.1, size, ev τ p.2))).map fun cs => (.sl H.length 0 len len, H ++ [.cells cs .ex])) := rfl
theorem aop_load (call : CallF) (τ : Nat → V) (H : Heap) (n : Nat) (agg : Bool) (x : X) : aop call τ H (.load n agg x) = (match ev τ x with
    | .ptr k o => if agg then (rdn H k o n).map fun cs => (.agg cs, H) else (rd H k o).map fun v => (v, H)
    | _ => none) := rfl
theorem aop_store (call : CallF) (τ : Nat → V) (H : Heap) (n : Nat) (x : X) (v : X) : aop call τ H (.store n x v) = (match ev τ x, (ev τ v).cells with
    | .ptr k o, some cs => if cs.length = n then (wr H k o cs).map fun H' => (.undef, H') else none
    | _, _ => none) := rfl
theorem aop_nilc (call : CallF) (τ : Nat → V) (H : Heap) (x : X) : aop call τ H (.nilc x) = (match ev τ x with | .ptr k o => some (.ptr k o, H) | .fn f a b => some (.fn f a b, H) | .yld k => some (.yld k, H) | _ => none) := rfl
theorem aop_bin (call : CallF) (τ : Nat → V) (H : Heap) (op : BinOp) (x : X) (y : X) : aop call τ H (.bin op x y) = ((binop op (ev τ x) (ev τ y)).map fun v => (v, H)) := rfl
theorem aop_eq (call : CallF) (τ : Nat → V) (H : Heap) (ne : Bool) (e : EK) (x : X) (y : X) : aop call τ H (.eq ne e x y) = ((eqv e (ev τ x) (ev τ y)).map fun b => (.bool (cond ne (!b) b), H)) := rfl
theorem aop_neg (call : CallF) (τ : Nat → V) (H : Heap) (x : X) : aop call τ H (.neg x) = (match ev τ x with | .int k n => some (.int k (k.wrap (0 - n)), H) | _ => none) := rfl
theorem aop_not (call : CallF) (τ : Nat → V) (H : Heap) (x : X) : aop call τ H (.not x) = (match ev τ x with | .bool b => some (.bool (!b), H) | _ => none) := rfl
theorem aop_conv (call : CallF) (τ : Nat → V) (H : Heap) (k : IntKind) (x : X) : aop call τ H (.conv k x) = (match ev τ x with | .int _ n => some (.int k (k.wrap n), H) | _ => none) := rfl
theorem aop_mkfn (call : CallF) (τ : Nat → V) (H : Heap) (f : Nat) (a : List X) (b : List X) : aop call τ H (.mkfn f a b) = (some (.fn f (a.map (ev τ)) (b.map (ev τ)), H)) := rfl
theorem aop_mkslice (call : CallF) (τ : Nat → V) (H : Heap) (u0 : Nat) (bytes : Nat) (zs : List V) (l : X) : aop call τ H (.mkslice u0 bytes zs l) = (match ev τ l with
    | .int _ n => if 0 ≤ n ∧ n ≤ lim ∧ n * bytes ≤ 2 ^ 40 then some (.sl H.length 0 n.toNat n.toNat, H ++ [.cells ((List.replicate n.toNat zs).flatten) .ex]) else none
    | _ => none) := rfl
theorem aop_slc (call : CallF) (τ : Nat → V) (H : Heap) (size : Nat) (x : X) (lo : Option X) (hi : Option X) : aop call τ H (.slc size x lo hi) = ((slcv H size (ev τ x) (lo.map (ev τ)) (hi.map (ev τ))).map fun v => (v, H)) := rfl
theorem aop_fadr (call : CallF) (τ : Nat → V) (H : Heap) (off : Nat) (x : X) : aop call τ H (.fadr off x) = (match ev τ x with | .ptr k o => some (.ptr k (o + off), H) | _ => none) := rfl
theorem aop_fld (call : CallF) (τ : Nat → V) (H : Heap) (off : Nat) (n : Nat) (agg : Bool) (x : X) : aop call τ H (.fld off n agg x) = (match ev τ x with
    | .agg cs => if agg then some (.agg ((cs.drop off).take n), H) else (cs[off]?).map fun v => (v, H)
    | _ => none) := rfl
theorem aop_iadr (call : CallF) (τ : Nat → V) (H : Heap) (size : Nat) (x : X) (i : X) : aop call τ H (.iadr size x i) = (match ev τ x, ev τ i with
    | .sl k o len _, .int _ n => if 0 ≤ n ∧ n < len then some (.ptr k (o + n.toNat * size), H) else none
    | _, _ => none) := rfl
theorem aop_idx (call : CallF) (τ : Nat → V) (H : Heap) (len : Nat) (size : Nat) (agg : Bool) (x : X) (i : X) : aop call τ H (.idx len size agg x i) = (match ev τ x, ev τ i with
    | .agg cs, .int _ n => if 0 ≤ n ∧ n < len then (if agg then some (.agg ((cs.drop (n.toNat * size)).take size), H) else (cs[n.toNat * size]?).map fun v => (v, H)) else none
    | _, _ => none) := rfl
theorem aop_ext (call : CallF) (τ : Nat → V) (H : Heap) (x : X) (j : Nat) : aop call τ H (.ext x j) = (match ev τ x with | .tup vs => (vs[j]?).map fun v => (v, H) | _ => none) := rfl
theorem aop_call (call : CallF) (τ : Nat → V) (H : Heap) (f : X) (args : List X) : aop call τ H (.call f args) = (match ev τ f with
    | .fn g a b => call (.f g) (a ++ args.map (ev τ) ++ b) H
    | .yld k => call (.y k) (args.map (ev τ)) H
    | _ => none) := rfl
theorem aop_mlen (call : CallF) (τ : Nat → V) (H : Heap) (x : X) : aop call τ H (.mlen x) = ((mapOf H (ev τ x)).map fun es => (.int .i64 es.length, H)) := rfl
theorem aop_append (call : CallF) (τ : Nat → V) (H : Heap) (size : Nat) (bytes : Nat) (x : X) (y : X) : aop call τ H (.append size bytes x y) = (appendv H size bytes (ev τ x) (ev τ y)) := rfl
theorem aop_copy (call : CallF) (τ : Nat → V) (H : Heap) (size : Nat) (x : X) (y : X) : aop call τ H (.copy size x y) = (match lenOf (ev τ x), lenOf (ev τ y) with
    | some n, some m => match cellsOf H size (ev τ y) with
      | some ys => match ev τ x with
        | .sl k o _ _ => (wr H k o (ys.take (min m n * size))).map fun H' => (.int .i64 (min m n), H')
        | .nils => some (.int .i64 0, H)
        | _ => none
      | none => none
    | _, _ => none) := rfl
theorem aop_mn (call : CallF) (τ : Nat → V) (H : Heap) (x : X) (y : X) : aop call τ H (.mn x y) = (match ev τ x, ev τ y with | .int k a, .int k' b => if k = k' then some (.int k (if b < a then b else a), H) else none | _, _ => none) := rfl
theorem aop_mx (call : CallF) (τ : Nat → V) (H : Heap) (x : X) (y : X) : aop call τ H (.mx x y) = (match ev τ x, ev τ y with | .int k a, .int k' b => if k = k' then some (.int k (if b > a then b else a), H) else none | _, _ => none) := rfl
theorem aop_clear (call : CallF) (τ : Nat → V) (H : Heap) (u0 : Nat) (zs : List V) (x : X) : aop call τ H (.clear u0 zs x) = (match ev τ x with
    | .nils => some (.tup [], H)
    | .sl k o n _ => if n = 0 then some (.tup [], H) else (wr H k o ((List.replicate n zs).flatten)).map fun H' => (.tup [], H')
    | _ => none) := rfl
theorem aop_mkmap (call : CallF) (τ : Nat → V) (H : Heap)  : aop call τ H (.mkmap ) = (some (.map H.length, H ++ [.mp []])) := rfl
theorem aop_lookup (call : CallF) (τ : Nat → V) (H : Heap) (kk : KK) (zero : V) (ok : Bool) (m : X) (x : X) : aop call τ H (.lookup kk zero ok m x) = (match mapOf H (ev τ m) with
    | some es => match keyf kk (ev τ x) es with
      | some (some (_, v)) => some (cond ok (.tup [v, .bool true]) v, H)
      | some none => some (cond ok (.tup [zero, .bool false]) zero, H)
      | none => none
    | none => none) := rfl
theorem aop_mapupd (call : CallF) (τ : Nat → V) (H : Heap) (kk : KK) (m : X) (x : X) (v : X) : aop call τ H (.mapupd kk m x v) = (match ev τ m with
    | .map k => match mpAt H k with
      | some es => match keyf kk (ev τ x) es with
        | some (some (i, _)) => some (.undef, H.set k (.mp (es.set i (ev τ x, ev τ v))))
        | some none => some (.undef, H.set k (.mp (es ++ [(ev τ x, ev τ v)])))
        | none => none
      | none => none
    | _ => none) := rfl
theorem aop_mapent (call : CallF) (τ : Nat → V) (H : Heap) (kk : KK) (zero : V) (m : X) (x : X) : aop call τ H (.mapent kk zero m x) = (match ev τ m with
    | .map k => match mpAt H k with
      | some es => match keyf kk (ev τ x) es with
        | some (some (i, v)) => some (.tup [v, .int .i64 i], H.set k (.mp (es.set i (ev τ x, v))))
        | some none => some (.tup [zero, .int .i64 es.length], H.set k (.mp (es ++ [(ev τ x, zero)])))
        | none => none
      | none => none
    | _ => none) := rfl
theorem aop_entst (call : CallF) (τ : Nat → V) (H : Heap) (m : X) (s : X) (v : X) : aop call τ H (.entst m s v) = (match ev τ m, ev τ s with
    | .map k, .int _ n => match mpAt H k with
      | some es => match es[n.toNat]? with
        | some e => if 0 ≤ n then some (.undef, H.set k (.mp (es.set n.toNat (e.1, ev τ v)))) else none
        | none => none
      | none => none
    | _, _ => none) := rfl
theorem aop_bad (call : CallF) (τ : Nat → V) (H : Heap)  : aop call τ H (.bad ) = (none) := rfl
attribute [simp] aop_mv aop_pick aop_alloc aop_box aop_build aop_bslice aop_load aop_store aop_nilc aop_bin aop_eq aop_neg aop_not aop_conv aop_mkfn aop_mkslice aop_slc aop_fadr aop_fld aop_iadr aop_idx aop_ext aop_call aop_mlen aop_append aop_copy aop_mn aop_mx aop_clear aop_mkmap aop_lookup aop_mapupd aop_mapent aop_entst aop_bad

theorem int_beq (a b : Nat) : ((a : Int) == (b : Int)) = (a == b) := by
  rw [Bool.eq_iff_iff]; simp; omega
theorem int_beq0 (a : Nat) : ((a : Int) == 0) = (a == 0) := int_beq a 0

/-- A row: so many elements of so many cells. -/
structure Rw (H : Heap) (sz : Nat) (x : V) (len : Nat) (cs : List V) : Prop where
  len : lenOf x = some len
  cells : cellsOf H sz x = some cs
theorem Rw.size {H : Heap} {sz len : Nat} {x : V} {cs : List V} (h : Rw H sz x len cs) : cs.length = len * sz := by
  obtain ⟨h1, h2⟩ := h
  cases x <;> simp [lenOf] at h1 <;> subst h1 <;> simp only [cellsOf] at h2
  · cases h2; simp
  · cases h2; simp
  · simp only [rdn] at h2
    split at h2
    · split at h2
      · cases h2; simp; omega
      · cases h2
    · cases h2
theorem Rw.frame {H H' : Heap} {sz len : Nat} {x : V} {cs : List V} (h : Rw H sz x len cs) (e : ∀ k, x.blk? = some k → H'[k]? = H[k]?) : Rw H' sz x len cs := by
  refine ⟨h.len, ?_⟩
  have h2 := h.cells
  cases x <;> simp only [cellsOf] at h2 ⊢ <;> first | exact h2 | cases h2 | skip
  exact (rdn_at h2).2 H' (e _ rfl)
/-- Its elements' cells, where they lie. -/
theorem len_cells {x : V} {n : Nat} (h : lenOf x = some n) : x.cells = some [x] := by
  cases x <;> simp [lenOf] at h <;> rfl
theorem Rw.one {H : Heap} {sz len : Nat} {x : V} {cs : List V} (h : Rw H sz x len cs) : x.cells = some [x] := len_cells h.len
theorem Rw.at {H : Heap} {sz len : Nat} {x : V} {cs : List V} (h : Rw H sz x len cs) {n : Nat} (hn : n < len) : ∃ k o c, x = .sl k o len c ∧ ∀ j, j < sz → rd H k (o + n * sz + j) = cs[n * sz + j]? := by
  obtain ⟨h1, h2⟩ := h
  cases x <;> simp [lenOf] at h1
  all_goals try (subst h1; simp at hn; done)
  rename_i k o l c
  subst h1
  refine ⟨k, o, c, rfl, fun j hj => ?_⟩
  simp only [cellsOf, rdn] at h2
  split at h2
  · rename_i ds m hk
    split at h2
    · rename_i hle
      cases h2
      have : n * sz + j < l * sz := by
        have : n * sz + sz ≤ l * sz := by rw [← Nat.succ_mul]; exact Nat.mul_le_mul_right _ hn
        omega
      simp [rd, hk, List.getElem?_take, this, Nat.add_assoc]
    · cases h2
  · cases h2
theorem Rw.at1 {H : Heap} {len : Nat} {x : V} {cs : List V} (h : Rw H 1 x len cs) {n : Nat} (hn : n < len) : ∃ k o c, x = .sl k o len c ∧ rd H k (o + n) = cs[n]? := by
  obtain ⟨k, o, c, h1, h2⟩ := h.at hn
  refine ⟨k, o, c, h1, ?_⟩
  have := h2 0 (by omega)
  simpa using this

/-- A row of bools; of whole numbers. -/
def BL (H : Heap) (x : V) (bs : List Bool) : Prop := Rw H 1 x bs.length (bs.map .bool)
def IL (k : IntKind) (H : Heap) (x : V) (zs : List Int) : Prop := Rw H 1 x zs.length (zs.map (.int k))
theorem BL.frame {H H' : Heap} {x : V} {bs : List Bool} (h : BL H x bs) (e : ∀ k, x.blk? = some k → H'[k]? = H[k]?) : BL H' x bs := Rw.frame h e
theorem IL.frame {k : IntKind} {H H' : Heap} {x : V} {zs : List Int} (h : IL k H x zs) (e : ∀ k, x.blk? = some k → H'[k]? = H[k]?) : IL k H' x zs := Rw.frame h e
theorem BL.at {H : Heap} {x : V} {bs : List Bool} (h : BL H x bs) {n : Nat} (hn : n < bs.length) : ∃ k o c, x = .sl k o bs.length c ∧ rd H k (o + n) = some (.bool (bs.getD n false)) := by
  obtain ⟨k, o, c, h1, h2⟩ := Rw.at1 h hn
  exact ⟨k, o, c, h1, by rw [h2]; simp [hn]⟩
theorem IL.at {q : IntKind} {H : Heap} {x : V} {zs : List Int} (h : IL q H x zs) {n : Nat} (hn : n < zs.length) : ∃ k o c, x = .sl k o zs.length c ∧ rd H k (o + n) = some (.int q (zs.getD n 0)) := by
  obtain ⟨k, o, c, h1, h2⟩ := Rw.at1 h hn
  exact ⟨k, o, c, h1, by rw [h2]; simp [hn]⟩

theorem call_Y {P : Program} {k g : Nat} {fc : FC} (hg : (g == k) = false) (hC : codeOf P g = some fc) {args : List V} (hl : args.length = fc.nargs) {H : Heap} :
    callL (envY P k) (.f g) args H = finish fc (execL (envY P k) fc.body ⟨args0 args, H⟩) :=
  callL_f (E := envY P k) (by have : g ≠ k := by simpa using hg
                              simp [envY, yes, this]) hC hl
theorem call_yes {P : Program} {k : Nat} {H : Heap} : callL (envY P k) (.f k) [] H = some (.bool true, H) := by
  have h : (envY P k).S k = yes k k := rfl
  unfold yes at h
  rw [if_pos rfl] at h
  rw [callL_S h]
end Go.Ar
