/- Slices of slices; rows that are laid anew, or appended to. -/
import Derived.Test.YtpojdgeginigjaaAr23
set_option linter.unusedSimpArgs false
set_option linter.unusedVariables false
namespace Go.Ar

/-- A slice that may be sliced: its row is handed in, or was made by append. -/
def SlG (H : Heap) (sz : Nat) : V → Prop
  | .nils | .es => True
  | .sl k _ len cap => len ≤ cap ∧ ∃ cs m, H[k]? = some (.cells cs m) ∧ (m = .ro ∨ m = .gr sz ∨ m = .rg sz)
  | _ => False
theorem SlG.frame {H H' : Heap} {sz : Nat} {x : V} (h : SlG H sz x) (e : ∀ k, x.blk? = some k → H'[k]? = H[k]?) : SlG H' sz x := by
  cases x <;> first | exact h | skip
  obtain ⟨h1, cs, m, h2, h3⟩ := h
  exact ⟨h1, cs, m, (e _ rfl).trans h2, h3⟩

theorem slcv_moved {H : Heap} {sz k o len cap : Nat} (hg : SlG H sz (.sl k o len cap)) {lo hi : Option V} {l h : Int} (hlo : loOf lo = some l) (hhi : hiOf len hi = some h) (h1 : 0 ≤ l ∧ l ≤ h ∧ h ≤ cap) :
    slcv H sz (.sl k o len cap) lo hi = some (moved k o sz len cap l.toNat h.toNat) := by
  obtain ⟨_, cs, m, h2, h3⟩ := hg
  unfold slcv
  simp only [hlo, hhi, if_pos h1, h2]
  rcases h3 with rfl | rfl | rfl <;> simp

theorem Rw.slice {H : Heap} {sz n : Nat} {x : V} {cs : List V} (h : Rw H sz x n cs) (hg : SlG H sz x) {lo hi : Option V} {l m : Nat} (hlo : loOf lo = some (l : Int)) (hhi : hiOf n hi = some (m : Int)) (hl : l ≤ m) (hm : m ≤ n) :
    ∃ x', slcv H sz x lo hi = some x' ∧ Rw H sz x' (m - l) ((cs.drop (l * sz)).take ((m - l) * sz)) ∧ SlG H sz x' ∧ ∀ k, x'.blk? = some k → x.blk? = some k := by
  have hsz := h.size
  obtain ⟨h1, h2⟩ := h
  cases x <;> simp [lenOf] at h1
  case nils =>
    subst h1
    have : m = 0 := by omega
    subst this
    have : l = 0 := by omega
    subst this
    exact ⟨.nils, by simp only [slcv]; rw [hhi, hlo]; rfl, ⟨rfl, by simp [cellsOf]⟩, trivial, fun k hk => hk⟩
  case es =>
    subst h1
    have : m = 0 := by omega
    subst this
    have : l = 0 := by omega
    subst this
    exact ⟨.es, by simp only [slcv]; rw [hhi, hlo]; rfl, ⟨rfl, by simp [cellsOf]⟩, trivial, fun k hk => hk⟩
  case sl k o len cap =>
    subst h1
    have hg0 := hg
    obtain ⟨hc, ds, md, hk, hmd⟩ := hg0
    refine ⟨_, slcv_moved hg hlo hhi ⟨by omega, by omega, by omega⟩, ?_⟩
    simp only [Int.toNat_natCast]
    have hle : o + len * sz ≤ ds.length := by
      simp only [cellsOf, rdn, hk] at h2
      split at h2
      · rename_i hle; exact hle
      · cases h2
    have hcs : cs = (ds.drop o).take (len * sz) := by
      simp only [cellsOf, rdn, hk, if_pos hle] at h2
      cases h2; rfl
    have hms : m * sz ≤ len * sz := Nat.mul_le_mul_right _ hm
    have hls : l * sz ≤ m * sz := Nat.mul_le_mul_right _ hl
    have hsub : (m - l) * sz = m * sz - l * sz := Nat.sub_mul m l sz
    have hrow : ∀ o', o' = o + l * sz → rdn H k o' ((m - l) * sz) = some ((cs.drop (l * sz)).take ((m - l) * sz)) := fun o' e => by
      subst e
      simp only [rdn, hk]
      rw [if_pos (by omega)]
      rw [hcs, List.drop_take, List.drop_drop, List.take_take]
      congr 2
      omega
    unfold moved
    split
    · rename_i h0
      subst h0
      exact ⟨⟨rfl, hrow o (by omega)⟩, ⟨by omega, ds, md, hk, hmd⟩, fun j hj => hj⟩
    · split
      · exact ⟨⟨rfl, hrow _ rfl⟩, ⟨by omega, ds, md, hk, hmd⟩, fun j hj => hj⟩
      · refine ⟨⟨by simp [lenOf]; omega, ?_⟩, trivial, fun j hj => by simp [V.blk?] at hj⟩
        have : m - l = 0 := by omega
        rw [this]
        simp [cellsOf]

theorem IL.tail {q : IntKind} {H : Heap} {x : V} {z : Int} {zs : List Int} (h : IL q H x (z :: zs)) (hg : SlG H 1 x) :
    ∃ x', slcv H 1 x (some (.int .i64 1)) none = some x' ∧ IL q H x' zs ∧ SlG H 1 x' ∧ ∀ k, x'.blk? = some k → x.blk? = some k := by
  obtain ⟨x', h1, h2, h3, h4⟩ := Rw.slice h hg (lo := some (.int .i64 1)) (hi := none) (l := 1) (m := zs.length + 1) rfl (by simp [hiOf]) (by omega) (by simp)
  refine ⟨x', h1, ?_, h3, h4⟩
  unfold IL
  have e : (((z :: zs).map (V.int q)).drop (1 * 1)).take ((zs.length + 1 - 1) * 1) = zs.map (.int q) := by simp; rw [List.take_of_length_le (by simp)]
  rw [e] at h2
  simpa using h2
theorem IL.upto {q : IntKind} {H : Heap} {x : V} {zs : List Int} (h : IL q H x zs) (hg : SlG H 1 x) (m : Nat) (hm : m ≤ zs.length) :
    ∃ x', slcv H 1 x none (some (.int .i64 m)) = some x' ∧ IL q H x' (zs.take m) ∧ SlG H 1 x' ∧ ∀ k, x'.blk? = some k → x.blk? = some k := by
  obtain ⟨x', h1, h2, h3, h4⟩ := Rw.slice h hg (lo := none) (hi := some (.int .i64 m)) (l := 0) (m := m) rfl rfl (by omega) hm
  refine ⟨x', h1, ?_, h3, h4⟩
  unfold IL
  have e : ((zs.map (V.int q)).drop (0 * 1)).take ((m - 0) * 1) = (zs.take m).map (.int q) := by simp [List.map_take]
  rw [e] at h2
  simpa [Nat.min_eq_left hm] using h2

/-- Out of what was handed in. -/
theorem SlOk.IL {q : IntKind} {H : Heap} {u : V} (h : SlOk [.int q] H u) : ∃ zs, Ar.IL q H u zs ∧ SlG H 1 u ∧ zs.length ≤ maxLen ∧ ∀ z ∈ zs, q.min ≤ z ∧ z ≤ q.max := by
  rcases h with rfl | ⟨k, len, cs, rfl, hk, hl, hm, hx⟩
  · exact ⟨[], ⟨rfl, rfl⟩, trivial, by simp, by simp⟩
  · simp only [List.length_cons, List.length_nil, Nat.zero_add, Nat.mul_one] at hl
    have hz : ∀ i, i < cs.length → ∃ z, cs[i]? = some (.int q z) ∧ q.min ≤ z ∧ z ≤ q.max := fun i hi => by
      obtain ⟨e, he, hok⟩ := hx i _ (List.getElem?_eq_getElem hi)
      have h1 : i % 1 = 0 := Nat.mod_one i
      simp only [List.length_cons, List.length_nil, Nat.zero_add, h1, List.getElem?_cons_zero, Option.some.injEq] at he
      subst he
      obtain ⟨z, hz, hb⟩ := hok
      exact ⟨z, by rw [List.getElem?_eq_getElem hi, hz], hb⟩
    let num : V → Int := fun v => match v with | .int _ n => n | _ => 0
    have hcs : cs = (cs.map num).map (.int q) := by
      refine List.ext_getElem? fun i => ?_
      by_cases hi : i < cs.length
      · obtain ⟨z, h1, _⟩ := hz i hi
        simp [h1, num]
      · simp [List.getElem?_eq_none (by omega : cs.length ≤ i)]
    refine ⟨cs.map num, ⟨by simp [lenOf, hl], ?_⟩, ⟨Nat.le_refl _, cs, .ro, hk, .inl rfl⟩, by simp; omega, fun z hzm => ?_⟩
    · simp only [cellsOf, rdn, hk]
      rw [if_pos (by omega)]
      simp only [List.drop_zero]
      rw [List.take_of_length_le (by omega)]
      rw [← hcs]
    · obtain ⟨v, hv, rfl⟩ := List.mem_map.1 hzm
      obtain ⟨i, hi, rfl⟩ := List.mem_iff_getElem.1 hv
      obtain ⟨z, h1, h2⟩ := hz i hi
      rw [List.getElem?_eq_getElem hi] at h1
      simp at h1
      simp only [num, h1]
      exact h2
theorem SlOk.BL {H : Heap} {u : V} (h : SlOk [.bool] H u) : ∃ bs, Ar.BL H u bs ∧ SlG H 1 u ∧ bs.length ≤ maxLen := by
  rcases h with rfl | ⟨k, len, cs, rfl, hk, hl, hm, hx⟩
  · exact ⟨[], ⟨rfl, rfl⟩, trivial, by simp⟩
  · simp only [List.length_cons, List.length_nil, Nat.zero_add, Nat.mul_one] at hl
    have hz : ∀ i, i < cs.length → ∃ z, cs[i]? = some (.bool z) := fun i hi => by
      obtain ⟨e, he, hok⟩ := hx i _ (List.getElem?_eq_getElem hi)
      have h1 : i % 1 = 0 := Nat.mod_one i
      simp only [List.length_cons, List.length_nil, Nat.zero_add, h1, List.getElem?_cons_zero, Option.some.injEq] at he
      subst he
      obtain ⟨z, hz⟩ := hok
      exact ⟨z, by rw [List.getElem?_eq_getElem hi, hz]⟩
    let num : V → Bool := fun v => match v with | .bool n => n | _ => false
    have hcs : cs = (cs.map num).map .bool := by
      refine List.ext_getElem? fun i => ?_
      by_cases hi : i < cs.length
      · obtain ⟨z, h1⟩ := hz i hi
        simp [h1, num]
      · simp [List.getElem?_eq_none (by omega : cs.length ≤ i)]
    refine ⟨cs.map num, ⟨by simp [lenOf, hl], ?_⟩, ⟨Nat.le_refl _, cs, .ro, hk, .inl rfl⟩, by simp; omega⟩
    simp only [cellsOf, rdn, hk]
    rw [if_pos (by omega)]
    simp only [List.drop_zero]
    rw [List.take_of_length_le (by omega)]
    rw [← hcs]

theorem len_scalar {x : V} {n : Nat} (h : lenOf x = some n) : x.scalar = true := by
  cases x <;> simp [lenOf] at h <;> rfl
theorem wr1 {H : Heap} {k o : Nat} {cs : List V} {m : Mode} {v : V} (hk : H[k]? = some (.cells cs m)) (hm : m.wr = true) (ho : o < cs.length) (hv : v.scalar = true) : wr H k o [v] = some (H.set k (.cells (cs.set o v) m)) := by
  unfold wr
  rw [hk]
  simp only [hm]
  rw [if_neg (by simp), if_pos (by simp; omega), if_pos (by simp only [List.all_cons, List.all_nil, hv, Bool.and_true])]
  rfl

theorem wrAll {H : Heap} {k : Nat} {cs vs : List V} {m : Mode} (hk : H[k]? = some (.cells cs m)) (hm : m.wr = true) (hl : vs.length = cs.length) (hv : vs.all V.scalar = true) : wr H k 0 vs = some (H.set k (.cells vs m)) := by
  unfold wr
  rw [hk]
  simp only [hm]
  rw [if_neg (by simp), if_pos (by omega), if_pos hv]
  congr 3
  congr 1
  refine List.ext_getElem? fun i => ?_
  rw [getElem?_wrc vs cs 0 i (by omega)]
  by_cases hi : i < vs.length
  · rw [if_pos ⟨by omega, by omega⟩]; simp
  · rw [if_neg (by omega), List.getElem?_eq_none (by omega), List.getElem?_eq_none (by omega)]
theorem flatRep (n : Nat) (v : V) : (List.replicate n [v]).flatten = List.replicate n v := by
  induction n with
  | zero => rfl
  | succ n ih => simp [List.replicate_succ, ih]

/-! ### Under prot -/
theorem rd_prot {hide : List Nat} {H : Heap} {k o : Nat} {v : V} (hk : k ∉ hide) (h : rd H k o = some v) : rd (prot hide H) k o = some v := by
  unfold rd at h ⊢
  rw [getElem?_prot]
  split at h
  · rename_i cs m hb
    rw [hb]
    simp only [Option.map_some, if_neg hk]
    cases m <;> exact h
  · cases h
theorem rdn_prot {hide : List Nat} {H : Heap} {k o n : Nat} {v : List V} (hk : k ∉ hide) (h : rdn H k o n = some v) : rdn (prot hide H) k o n = some v := by
  unfold rdn at h ⊢
  rw [getElem?_prot]
  split at h
  · rename_i cs m hb
    rw [hb]
    simp only [Option.map_some, if_neg hk]
    cases m <;> exact h
  · cases h
theorem Rw.prot {hide : List Nat} {H : Heap} {sz n : Nat} {x : V} {cs : List V} (h : Rw H sz x n cs) (hk : ∀ k, x.blk? = some k → k ∉ hide) : Rw (prot hide H) sz x n cs := by
  refine ⟨h.len, ?_⟩
  have h2 := h.cells
  cases x <;> simp only [cellsOf] at h2 ⊢ <;> first | exact h2 | cases h2 | skip
  exact rdn_prot (hk _ rfl) h2
theorem BL.prot {hide : List Nat} {H : Heap} {x : V} {bs : List Bool} (h : BL H x bs) (hk : ∀ k, x.blk? = some k → k ∉ hide) : BL (Ar.prot hide H) x bs := Rw.prot h hk
theorem IL.prot {q : IntKind} {hide : List Nat} {H : Heap} {x : V} {zs : List Int} (h : IL q H x zs) (hk : ∀ k, x.blk? = some k → k ∉ hide) : IL q (Ar.prot hide H) x zs := Rw.prot h hk
/-- A call that reads alone, under prot. -/
theorem pcall_same {call : CallF} {hide : List Nat} {t : Tgt} {args : List V} {H : Heap} {v : V} (h : call t args (prot hide H) = some (v, prot hide H)) : pcall call hide t args H = some (v, H) := by
  unfold pcall
  rw [h]
  simp [length_prot, List.drop_eq_nil_of_le]
end Go.Ar
