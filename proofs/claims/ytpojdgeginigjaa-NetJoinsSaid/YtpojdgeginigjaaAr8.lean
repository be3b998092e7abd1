/- Each operation but a call: what the abstract run answers, the machine's operation answers. Fourth part: append, copy, clear; maps. -/
import Derived.Test.YtpojdgeginigjaaAr7
import Derived.MapKept
set_option linter.unusedSimpArgs false
set_option linter.unusedVariables false
namespace Go.Ar
open Go.RowKit
variable {P : Program} {B0 : Nat} {w0 : World} {ρ : Rho} {H : Heap} {D : List Nat} {w : World} {nt : Nat} {τ : Nat → V} {a : Act}

/-- A slice that is read whole. -/
theorem cells_run (hS : Sim P B0 w0 ρ H D w) {size : Nat} {y : V} {y' : Value} (hy : R ρ y y') {ys : List V} (hc : cellsOf H size y = some ys) {m : Nat} (hm : lenOf y = some m) :
    ∃ (b : Option Addr) (c : Nat) (ys' : List Value), y' = .slice b m c ∧ RL ρ ys ys' ∧ ys.length = m * size ∧
      ∀ (n : Nat) (w2 : World), n ≤ m → w2.heap = w.heap → (Builtin.firstCells size n y').run P w2 = .ok (ys'.take (n * size)).toArray w2 := by
  cases hy <;> (try (simp [cellsOf] at hc; done))
  · simp [cellsOf] at hc; simp [lenOf] at hm; subst hc; subst hm
    exact ⟨none, 0, [], rfl, RL.nil _, by simp, fun n w2 hn _ => by simp [Builtin.firstCells]⟩
  · rename_i b c
    simp [cellsOf] at hc; simp [lenOf] at hm; subst hc; subst hm
    refine ⟨b, c, [], rfl, RL.nil _, by simp, fun n w2 hn _ => ?_⟩
    have : n = 0 := by omega
    subst this
    cases b <;> simp [Builtin.firstCells, loadCells, loadCellsFrom]
  · rename_i k o len cap cap' L hL hcap
    simp only [cellsOf] at hc
    simp [lenOf] at hm; subst hm
    obtain ⟨ys', h1, h2, h3⟩ := rdn_ok hS hc hL
    refine ⟨_, _, ys', rfl, h1, h2, fun n w2 hn hh => ?_⟩
    have hln : ys'.length = len * size := by rw [← h1.1]; exact h2
    have hle : n * size ≤ len * size := Nat.mul_le_mul_right _ hn
    refine run_firstCells_some w2 size n _ _ _ (ys'.take (n * size)) (by simp; omega) fun j v hj => ?_
    have hj' : ys'[j]? = some v := by
      by_cases hlt : j < n * size
      · simpa [List.getElem?_take, hlt] using hj
      · simp [List.getElem?_take, hlt] at hj
    have := h3 j v hj'
    simpa [World.cell?, hh] using this

theorem Sim.add (hS : Sim P B0 w0 ρ H D w) {b : Blk} {L : Loc} (hb : BlkOk P B0 (ext ρ H.length L) L w b) (hne : ∀ k c L', H[k]? = some c → c.live = true → ρ k = some L' → L'.blk ≠ L.blk) :
    Sim P B0 w0 (ext ρ H.length L) (H ++ [b]) D w := by
  have hle : RLe ρ (ext ρ H.length L) := le_ext (hS.out _ (Nat.le_refl _)) L
  have hget : ∀ k c, (H ++ [b])[k]? = some c → (k = H.length ∧ c = b) ∨ (k < H.length ∧ H[k]? = some c) := fun k c hc => by
    by_cases hk : k < H.length
    · rw [List.getElem?_append_left hk] at hc; exact .inr ⟨hk, hc⟩
    · rw [List.getElem?_append_right (by omega)] at hc
      have : k - H.length = 0 := by
        by_cases h0 : k - H.length = 0
        · exact h0
        · rw [List.getElem?_eq_none (by simp; omega)] at hc; cases hc
      rw [this] at hc; cases hc
      exact .inl ⟨by omega, rfl⟩
  have hext : ∀ k, k < H.length → ext ρ H.length L k = ρ k := fun k hk => by unfold ext; rw [if_neg (by omega)]
  refine ⟨fun k hk => ?_, hS.base, hS.low, fun k c hc hl => ?_, fun k k' c c' M M' hkk hc hco hc' hcl hM hM' => ?_, hS.dfr⟩
  · simp at hk; unfold ext; rw [if_neg (by omega)]; exact hS.out k (by omega)
  · rcases hget k c hc with ⟨rfl, rfl⟩ | ⟨hk, hc0⟩
    · exact ⟨L, by simp [ext], hb⟩
    · obtain ⟨L', h1, h2⟩ := hS.blk k c hc0 hl
      exact ⟨L', hle _ _ h1, h2.mono hle⟩
  · rcases hget k c hc with ⟨rfl, rfl⟩ | ⟨hk, hc0⟩
    · rcases hget k' c' hc' with ⟨rfl, rfl⟩ | ⟨hk', hc0'⟩
      · exact absurd rfl hkk
      · rw [hext k' hk'] at hM'
        have e1 : M = L := by simp [ext] at hM; exact hM.symm
        subst e1
        exact fun e => hne k' c' M' hc0' hcl hM' e.symm
    · rw [hext k hk] at hM
      rcases hget k' c' hc' with ⟨rfl, rfl⟩ | ⟨hk', hc0'⟩
      · have e1 : M' = L := by simp [ext] at hM'; exact hM'.symm
        subst e1
        exact hne k c M hc0 (Blk.own_live hco) hM
      · rw [hext k' hk'] at hM'
        exact hS.sep k k' c c' M M' hkk hc0 hco hc0' hcl hM hM'

theorem u63 : IntKind.i64.max = 9223372036854775807 := rfl

theorem op_append (hS : Sim P B0 w0 ρ H D w) {t e : TypeId} (he : telem P t = some e) {i : TypeInfo} (hi : P.info? e = some i) (hs0 : 0 < i.size) (hb0 : 0 < i.bytes) {zs : List V} (hz : tzero P e = some zs)
    {ty : TypeId} {x y : V} {x' y' : Value} (hx : R ρ x x') (hy : R ρ y y') {v : V} {H' : Heap} (h : appendv H i.size i.bytes x y = some (v, H')) :
    ∃ v' w' ρ', (Builtin.append_ #[t, t] ty #[x', y']).run P w = .ok v' w' ∧ R ρ' v v' ∧ Agree H.length ρ ρ' ∧ Sim P B0 w0 ρ' H' D w' := by
  obtain ⟨i', z, hi', hz', hzs, _, _⟩ := tzero_of hz
  rw [hi] at hi'; cases hi'
  have hu := telem_u he
  unfold appendv at h
  split at h
  case h_2 => cases h
  rename_i m ys hm hys
  split at h
  · cases h
  rename_i hsc
  simp only [Bool.not_eq_false] at hsc
  obtain ⟨yb, yc, ys', ey, hy1, hy2, hy3⟩ := cells_run hS hy hys hm
  have hl' : ys'.length = m * i.size := by rw [← hy1.1]; exact hy2
  have hfull : ∀ w2 : World, w2.heap = w.heap → (Builtin.firstCells i.size m y').run P w2 = .ok ys'.toArray w2 := fun w2 hh => by
    have := hy3 m w2 (Nat.le_refl _) hh
    rwa [List.take_of_length_le (by omega)] at this
  subst ey
  have hnl : ∀ (n c k : Nat) (b : Option Addr), (Builtin.lenOf (.slice b n c) : Sem Nat).run P w = .ok n w := fun n c k b => rfl
  -- room is there
  have hroom : ∀ (b : Option Addr) (n c : Nat), n + m ≤ c → (Builtin.append_ #[t, t] ty #[.slice b n c, .slice yb m yc]).run P w =
      (match b with | some q => ((storeCells (q.add (n * i.size)) ys').run P w).andThen fun _ w' => .ok (.slice b (n + m) c) w' | none => .ok (.slice b (n + m) c) w) := by
    intro b n c hc
    have hf := hfull w rfl
    cases b with
    | none => simp [Builtin.append_, run_underlying hu, sizeOf, typeInfo, hi, Builtin.lenOf, hc, hf]
    | some q => simp [Builtin.append_, run_underlying hu, sizeOf, typeInfo, hi, Builtin.lenOf, hc, hf]
  -- a new row
  have hgrow : ∀ (b : Option Addr) (n c : Nat) (xs' : List Value), c < n + m → (n + m) * i.bytes ≤ 2 ^ 40 → n + m ≤ lim →
      (Builtin.firstCells i.size n (.slice b n c)).run P w.drew = .ok xs'.toArray w.drew → xs'.length = n * i.size →
      ∃ (cs' : Array Value) (nc : Nat), (Builtin.append_ #[t, t] ty #[.slice b n c, .slice yb m yc]).run P w = .ok (.slice (some ⟨w.heap.size, 0, none⟩) (n + m) nc) (w.drew.alloc (.cells cs' e)) ∧
        n + m ≤ nc ∧ cs'.size = nc * i.size ∧ ∀ j, j < (n + m) * i.size → cs'[j]? = (xs' ++ ys')[j]? := by
    intro b n c xs' hc hby hlim hfx hlx
    unfold lim at hlim
    have hn : ¬ (n + m ≤ c) := by omega
    have h63 : ¬ (9223372036854775807 < ((n : Int) + (m : Int))) := by omega
    have h48 : ¬ (281474976710656 < Builtin.nextslicecap (n + m) c * i.bytes) := by
      have := Nat.mul_le_mul_right i.bytes (nextslicecap_le (need := n + m) (old := c) (by omega))
      have e1 : 2 * (n + m) * i.bytes = 2 * ((n + m) * i.bytes) := Nat.mul_assoc _ _ _
      omega
    have hf := hfull w.drew rfl
    have hge : n + m ≤ grownCap w (n + m) c e := Nat.le_add_right _ _
    refine ⟨xs'.toArray ++ ys'.toArray ++ Builtin.zeroCells z.cells (grownCap w (n + m) c e - (n + m)), grownCap w (n + m) c e, ?_, hge, ?_, fun j hj => ?_⟩
    · simp [Builtin.append_, run_underlying hu, sizeOf, typeInfo, zeroValue, hi, hz', Builtin.lenOf, hn, h63, h48, Question.forced, hf, hfx, newRow, grownCap]
      congr 2
      apply Array.ext'
      simp [List.append_assoc]
    · have e1 : (grownCap w (n + m) c e - (n + m)) * i.size = grownCap w (n + m) c e * i.size - (n + m) * i.size := Nat.sub_mul _ _ _
      have e2 : (n + m) * i.size ≤ grownCap w (n + m) c e * i.size := Nat.mul_le_mul_right _ hge
      have e3 : (n + m) * i.size = n * i.size + m * i.size := Nat.add_mul _ _ _
      simp [Builtin.zeroCells, hlx, hl', hzs]
      omega
    · have e3 : (n + m) * i.size = n * i.size + m * i.size := Nat.add_mul _ _ _
      rw [Array.getElem?_append_left (by simp; omega)]
      simp
  -- the new block in the abstract memory
  have hput : ∀ (H2 : Heap) (w2 : World) (hS2 : Sim P B0 w0 ρ H2 D w2) (xs : List V) (xs' : List Value) (cs' : Array Value) (n nc : Nat), RL ρ xs xs' → xs.length = n * i.size → n + m ≤ nc → cs'.size = nc * i.size →
      (∀ j, j < (n + m) * i.size → cs'[j]? = (xs' ++ ys')[j]?) →
      Sim P B0 w0 (ext ρ H2.length ⟨w2.heap.size, 0, .grow i.size cs'.size⟩) (H2 ++ [.cells (xs ++ ys) (.gr i.size)]) D (w2.alloc (.cells cs' e)) ∧
      R (ext ρ H2.length ⟨w2.heap.size, 0, .grow i.size cs'.size⟩) (.sl H2.length 0 (n + m) (n + m)) (.slice (some ⟨w2.heap.size, 0, none⟩) (n + m) nc) := by
    intro H2 w2 hS2 xs xs' cs' n nc hxs hxl hnc hcs hj
    have hl := le_ext (hS2.out _ (Nat.le_refl _)) ⟨w2.heap.size, 0, .grow i.size cs'.size⟩
    have e3 : (n + m) * i.size = n * i.size + m * i.size := Nat.add_mul _ _ _
    refine ⟨hS2.new _ _ _ rfl fun _ => ⟨cs', e, (0, 0), World.alloc_heap_new w2 _, fun j v hv => ?_, hS2.sizeLe, rfl, rfl, rfl⟩, ?_⟩
    · have hlt : j < (xs ++ ys).length := (List.getElem?_eq_some_iff.1 hv).1
      obtain ⟨v', h1, h2⟩ := (hxs.append hy1).get hv
      refine ⟨v', ?_, h2.mono hl⟩
      simp only [Nat.zero_add]
      rw [hj j (by simp [hxl, hy2] at hlt; omega)]
      exact h1
    · have := @R.sl (ext ρ H2.length ⟨w2.heap.size, 0, .grow i.size cs'.size⟩) H2.length 0 (n + m) (n + m) nc ⟨w2.heap.size, 0, .grow i.size cs'.size⟩ (by simp [ext]) ⟨hnc, by omega⟩
      simpa using this
  cases hx with
  | nils =>
    simp only at h
    split at h
    · rename_i hm0; subst hm0; cases h
      refine ⟨_, _, ρ, ?_, R.nils, Agree.refl _ _, hS⟩
      have := hroom none 0 0 (by omega)
      simpa using this
    · split at h
      · rename_i hm0 hc
        cases h
        obtain ⟨cs', nc, h1, h2, h3, h4⟩ := hgrow none 0 0 [] (by omega) (by simpa using hc.1) (by simpa using hc.2) (by simp [Builtin.firstCells]) (by simp)
        obtain ⟨h5, h6⟩ := hput H w.drew hS.drew [] [] cs' 0 nc (RL.nil _) (by simp) h2 h3 h4
        simp only [Nat.zero_add, List.nil_append] at h1 h5 h6
        exact ⟨_, _, _, h1, h6, agree_ext _ _ _, h5⟩
      · cases h
  | sl hL hcap =>
    rename_i k o len cap cap' L
    simp only at h
    split at h
    case h_2 => cases h
    rename_i cs md hk
    split at h
    case isFalse => cases h
    rename_i hle
    obtain ⟨L', hL', c, T, fr, hc1, hc2, hc3⟩ := hS.blk k _ hk rfl
    rw [hL] at hL'; cases hL'
    have hcc : cap ≤ cap' := by
      revert hcap; unfold capOk; split
      · exact id
      · intro hc; omega
      · exact fun hc => hc.1
    split at h
    · rename_i hfit
      split at h
      · rename_i H2 hw
        cases h
        obtain ⟨w', h1, h2⟩ := wr_ok hS hw hL hy1
        have := hroom (some ⟨L.blk, L.base + o, none⟩) len cap' (by omega)
        simp only [add_at] at this
        rw [Nat.add_assoc, h1] at this
        exact ⟨_, w', ρ, this, R.sl hL hcap, Agree.refl _ _, h2⟩
      · cases h
    · rename_i hfit
      split at h
      case isFalse => cases h
      rename_i hlim
      have hrd : rdn H k o (len * i.size) = some ((cs.drop o).take (len * i.size)) := by simp [rdn, hk, hle]
      obtain ⟨xs', hx1, hx2, hx3⟩ := rdn_ok hS hrd hL
      have hxl : xs'.length = len * i.size := by rw [← hx1.1]; exact hx2
      have hfx : ∀ c : Nat, (Builtin.firstCells i.size len (.slice (some ⟨L.blk, L.base + o, none⟩) len c)).run P w.drew = .ok xs'.toArray w.drew := fun c =>
        run_firstCells_some w.drew i.size len _ _ _ xs' hxl fun j v hj => by simpa using hx3 j v hj
      cases md with
      | ro => cases h
      | rg es => cases h
      | ex =>
        cases h
        have hkd : L.kd = .exact := hc3.2.2.2.1
        rw [hkd] at hcap
        have hce : cap' = cap := hcap
        obtain ⟨cs', nc, h1, h2, h3, h4⟩ := hgrow (some ⟨L.blk, L.base + o, none⟩) len cap' xs' (by omega) (by omega) (by omega) (hfx _) hxl
        obtain ⟨h5, h6⟩ := hput H w.drew hS.drew _ xs' cs' len nc hx1 hx2 h2 h3 h4
        exact ⟨_, _, _, h1, h6, agree_ext _ _ _, h5⟩
      | gr es =>
        simp only at h
        split at h
        case isFalse => cases h
        rename_i hes
        obtain ⟨rfl, rfl⟩ := hes
        cases h
        obtain ⟨hB, hfr, hbase, hkd⟩ := hc3
        simp only [List.drop_zero] at hx1 hx2
        have hag : ∀ M, Agree H.length ρ (ext ρ (H.set k .dead).length M) := fun M => by rw [List.length_set]; exact agree_ext _ _ _
        have hlen : (H.set k Blk.dead).length = H.length := by simp
        by_cases hroomy : len + m ≤ cap'
        · -- in place
          rw [hkd] at hcap
          obtain ⟨_, hcap2⟩ := hcap
          subst hfr
          have hone : ∀ v ∈ ys', v.oneCell' = true := fun v hvm => by
            obtain ⟨j, hj, rfl⟩ := List.mem_iff_getElem.1 hvm
            have hj0 : j < ys.length := by rw [hy1.1]; exact hj
            exact (hy1.2 j ys[j] ys'[j] (List.getElem?_eq_getElem hj0) (List.getElem?_eq_getElem hj)).oneCell (List.all_eq_true.1 hsc _ (List.getElem_mem hj0))
          have e3 : (len + m) * i.size = len * i.size + m * i.size := Nat.add_mul _ _ _
          have e4 : (len + m) * i.size ≤ cap' * i.size := Nat.mul_le_mul_right _ hroomy
          have hst := run_storeCells_at P L.blk (L.base + 0 + len * i.size) T ys' 0 c w hc1 (by rw [hbase]; omega) hone
          have := hroom (some ⟨L.blk, L.base + 0, none⟩) len cap' hroomy
          simp only [add_at] at this
          rw [hst] at this
          simp only [Result.andThen_ok] at this
          have hown : (Blk.cells cs (.gr i.size)).own = true := rfl
          have hS1 := hS.mod (b' := .dead) hk hown hL (w' := w.setRow L.blk (c.toList.take (L.base + 0 + len * i.size + 0) ++ ys' ++ c.toList.drop (L.base + 0 + len * i.size + 0 + ys'.length)).toArray) rfl rfl rfl (by simp [World.setRow]) (fun j hj => by simp only [World.setRow, Array.getElem?_modify]; rw [if_neg (by omega)]) (fun hl => by simp [Blk.live] at hl)
          have hszeq : (c.toList.take (L.base + 0 + len * i.size + 0) ++ ys' ++ c.toList.drop (L.base + 0 + len * i.size + 0 + ys'.length)).toArray.size = c.size := by rw [hbase]; simp; omega
          have hle2 : RLe ρ (ext ρ (H.set k Blk.dead).length L) := le_ext (hS1.out _ (Nat.le_refl _)) L
          have hS2 := hS1.add (b := .cells (cs.take (len * i.size) ++ ys) (.gr i.size)) (L := L) ?_ ?_
          · refine ⟨_, _, _, this, ?_, hag _, hS2⟩
            have hr := @R.sl (ext ρ (H.set k Blk.dead).length L) (H.set k Blk.dead).length 0 (len + m) (len + m) cap' L (by simp [ext]) (by rw [hkd]; exact ⟨hroomy, by omega⟩)
            rw [hlen] at hr ⊢
            exact hr
          · refine ⟨_, T, (0, 0), setRow_heap w L.blk c _ T _ hc1, fun j v hv => ?_, hB, rfl, hbase, by rw [hszeq]; exact hkd⟩
            rw [hbase]
            simp only [Nat.zero_add, Nat.add_zero, List.getElem?_toArray]
            have htk : (cs.take (len * i.size)).length = len * i.size := by simp; omega
            have hctk : (c.toList.take (len * i.size)).length = len * i.size := by simp; omega
            by_cases hj : j < len * i.size
            · rw [List.getElem?_append_left (by omega), List.getElem?_take, if_pos hj] at hv
              obtain ⟨v', h5, h6⟩ := hc2 j v hv
              rw [hbase, Nat.zero_add] at h5
              refine ⟨v', ?_, h6.mono hle2⟩
              rw [List.append_assoc, List.getElem?_append_left (by omega), List.getElem?_take, if_pos hj]
              simpa using h5
            · rw [List.getElem?_append_right (by omega), htk] at hv
              obtain ⟨v', h5, h6⟩ := hy1.get hv
              refine ⟨v', ?_, h6.mono hle2⟩
              have hlt := (List.getElem?_eq_some_iff.1 h5).1
              rw [List.append_assoc, List.getElem?_append_right (by omega), hctk, List.getElem?_append_left (by omega)]
              exact h5
          · intro j b L' hj hl hL'
            have hjk : j ≠ k := by
              rintro rfl
              rw [List.getElem?_set] at hj
              simp only [if_pos] at hj
              split at hj
              · cases hj; simp [Blk.live] at hl
              · cases hj
            rw [List.getElem?_set, if_neg (fun e => hjk e.symm)] at hj
            exact fun e => hS.sep k j _ b L L' (fun e => hjk e.symm) hk hown hj hl hL hL' e.symm
        · obtain ⟨cs', nc, h1, h2, h3, h4⟩ := hgrow (some ⟨L.blk, L.base + 0, none⟩) len cap' xs' (by omega) (by omega) (by omega) (hfx _) hxl
          obtain ⟨h5, h6⟩ := hput (H.set k .dead) w.drew (hS.drew.kill k) _ xs' cs' len nc hx1 hx2 h2 h3 h4
          rw [hlen] at h6
          refine ⟨_, _, _, h1, ?_, hag _, h5⟩
          rw [hlen]; exact h6
  | _ => simp at h
end Go.Ar
