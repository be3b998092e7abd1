/- The document's script. -/
import Derived.Test.YteogambpkgkmhaaSk
import Derived.Test.YteogambpkgkmhaaAr28
set_option linter.unusedSimpArgs false
set_option linter.unusedVariables false
namespace Go.Proofs.Yteogambpkgkmhaa
open Go Go.Ar
set_option maxRecDepth 100000

theorem rnew_ok {H : Heap} {x : V} {n : Nat} (h64 : n ≤ 64) (hx : x.cells = some [x]) (hsc : x.scalar = true) :
    callL E (.f 12) [.int .i64 n, x] H = some (.agg [.int .i64 n, x, .int .i64 (-1), .sl (H.length + 1) 0 n n, .int .i64 0], H ++ [.cells [.int .i64 n, x, .int .i64 (-1), .sl (H.length + 1) 0 n n, .int .i64 0] .ex] ++ [.cells (List.replicate n (.bool false)) .ex]) := by
  rw [call_E rfl fc12_ok rfl]
  have hlimm : (0 : Int) ≤ n ∧ (n : Int) ≤ (lim : Nat) ∧ (n : Int) * (1 : Nat) ≤ 2 ^ 40 := by unfold lim; omega
  have hbig : (n : Int) ≤ 1099511627776 := by omega
  have hk : (H ++ [Blk.cells [V.int .i64 0, .nils, .int .i64 0, .nils, .int .i64 0] .ex] ++ [.cells (List.replicate n (.bool false)) .ex])[H.length]? = some (.cells [V.int .i64 0, .nils, .int .i64 0, .nils, .int .i64 0] .ex) := by simp
  obtain ⟨H2, w2, hH2⟩ : ∃ X, wr (H ++ [Blk.cells [V.int .i64 0, .nils, .int .i64 0, .nils, .int .i64 0] .ex] ++ [.cells (List.replicate n (.bool false)) .ex]) H.length 0 [.int .i64 n, x, .int .i64 (-1), .sl (H.length + 1) 0 n n, .int .i64 0] = some X ∧
      X = H ++ [.cells [.int .i64 n, x, .int .i64 (-1), .sl (H.length + 1) 0 n n, .int .i64 0] .ex] ++ [.cells (List.replicate n (.bool false)) .ex] := ⟨_, wrAll (vs := [.int .i64 n, x, .int .i64 (-1), .sl (H.length + 1) 0 n n, .int .i64 0]) hk rfl rfl (by simp only [List.all_cons, List.all_nil, hsc]; rfl), by simp⟩
  rw [← hH2]
  have hrd : rdn H2 H.length 0 5 = some [.int .i64 n, x, .int .i64 (-1), .sl (H.length + 1) 0 n n, .int .i64 0] := by rw [hH2]; simp [rdn]
  simp only [List.append_assoc, List.cons_append, List.nil_append] at w2
  simp [fc12, hlimm, hbig, flatRep, fillc, wrc, hx, w2, hrd]

/-- Who is told, from place j on. -/
def Who (done : List Bool) (b : Int) (n j : Nat) (who : Int) : Prop :=
  (who = -1 ∧ ∀ i : Nat, j ≤ i → i < n → done.getD ((b + (i : Int)).tmod n).toNat false = true) ∨
  ∃ i : Nat, j ≤ i ∧ i < n ∧ who = (b + (i : Int)).tmod n ∧ done.getD ((b + (i : Int)).tmod n).toNat false = false ∧ ∀ i' : Nat, j ≤ i' → i' < i → done.getD ((b + (i' : Int)).tmod n).toNat false = true

/-- Who was told last, as the document has it. -/
def LR (lr : Int) (s : PS) (n : Nat) : Prop := lr = s.last ∨ (lr = -1 ∧ s.last = n - 1)

theorem isr_ok {H : Heap} {d : V} {bs : List Bool} (hb : BL H d bs) (w : Nat) : callL E (.f 23) [d, .int .i64 w] H = some (.bool (bs.getD w false), H) := by
  rw [call_E rfl fc23_ok rfl]
  have h1 := hb.len
  by_cases hw : w < bs.length
  · obtain ⟨k, o, c, rfl, h3⟩ := hb.at hw
    simp [fc23, hw, h3]
  · have h0 : bs.getD w false = false := by simp [hw]
    simp [fc23, hw, h1]

theorem from_same {b fr : Int} {n : Nat} (h : fr % (n : Int) = b % (n : Int)) (h0 : 0 ≤ fr) (h1 : 0 ≤ b) (i : Nat) : (fr + (i : Int)).tmod n = (b + (i : Int)).tmod n := by
  rw [Int.tmod_eq_emod_of_nonneg (by omega), Int.tmod_eq_emod_of_nonneg (by omega), Int.add_emod, h, ← Int.add_emod]

theorem rnext_ok {H : Heap} {p t d : V} {s : PS} {n : Nat} {lr : Int} {done : List Bool} (hf : Fit s n) (hlr : LR lr s n) (hp : IL .i64 H p s.picks) (hg : s.picks ≠ [] → SlG H 1 p) (ht : BL H t s.told) (hd : BL H d done) :
    ∃ v H', callL E (.f 13) [.agg [.int .i64 n, p, .int .i64 lr, t, .int .i64 s.ended], d] H = some (v, H') ∧ H.length ≤ H'.length ∧ (∀ k, k < H.length → H'[k]? = H[k]?) ∧
      ∃ p' t' lr', v = .tup [.agg [.int .i64 n, p', .int .i64 lr', t', .int .i64 (s.next done).2.ended], .int .i64 (match (s.next done).1 with | some w => (w : Int) | none => -1)] ∧
        LR lr' (s.next done).2 n ∧ IL .i64 H' p' (s.next done).2.picks ∧ ((s.next done).2.picks ≠ [] → SlG H' 1 p') ∧ BL H' t' (s.next done).2.told ∧ (∀ k, p'.blk? = some k → p.blk? = some k) ∧ (∀ k, t'.blk? = some k → t.blk? = some k ∨ H.length ≤ k) := by
  refine call_G rfl fc13_ok gc13_ok rfl ?_
  unfold gc13 fc13
  dsimp only
  have hpc := hp.len
  have hpl := Rw.one hp
  have htl := Rw.one ht
  have hn1 := hf.pos
  have hn64 := hf.le
  have hb := hf.bounds
  rw [hf.told] at hb
  have hlrb : -1 ≤ lr ∧ lr < n := by
    have := hf.l0
    have := hf.l1
    rcases hlr with h | ⟨h, _⟩ <;> omega
  have hA := ((Hp.refl H).a (.cells [.int .i64 n, p, .int .i64 lr, t, .int .i64 s.ended] .ex)).a (.cells [.int .i64 0, .nils, .int .i64 0, .nils, .int .i64 0] .ex)
  rw [List.length_append, List.length_singleton] at hA
  refine wa_sr ⟨_, by simp; rfl, ?_⟩
  obtain ⟨HA, hHA⟩ : ∃ X, X = H ++ [Blk.cells [.int .i64 n, p, .int .i64 lr, t, .int .i64 s.ended] .ex] ++ [Blk.cells [.int .i64 0, .nils, .int .i64 0, .nils, .int .i64 0] .ex] := ⟨_, rfl⟩
  rw [← hHA] at hA
  have hHA' : HA = H ++ [Blk.cells [.int .i64 n, p, .int .i64 lr, t, .int .i64 s.ended] .ex, Blk.cells [.int .i64 0, .nils, .int .i64 0, .nils, .int .i64 0] .ex] := by rw [hHA]; simp
  rw [show (H ++ [Blk.cells [V.int .i64 n, p, .int .i64 lr, t, .int .i64 s.ended] .ex, Blk.cells [.int .i64 0, .nils, .int .i64 0, .nils, .int .i64 0] .ex]) = HA from hHA'.symm]
  clear hHA hHA'
  generalize hkb : H.length = kb at *
  have hkk := hA.r1
  dsimp only at hkk
  have q0 : rd HA kb 0 = some (.int .i64 n) := by simp [rd, hkk]
  have q1 : rd HA kb 1 = some p := by simp [rd, hkk]
  have q2 : rd HA kb 2 = some (.int .i64 lr) := by simp [rd, hkk]
  have q3 : rd HA kb 3 = some t := by simp [rd, hkk]
  have q4 : rd HA kb 4 = some (.int .i64 s.ended) := by simp [rd, hkk]
  have hwl : IntKind.i64.wrap (lr + 1) = lr + 1 := w64 (by omega) (by omega)
  have hwn : IntKind.i64.wrap ((n : Int) - 1) = (n : Int) - 1 := w64 (by omega) (by omega)
  refine wa_sr ⟨_, by simp [q2, hwl]; rfl, ?_⟩
  refine wa_sr ⟨_, by simp [q1, hpc]; rfl, ?_⟩
  refine wa_cut (fun σ => σ.H = HA ∧ ∃ fr : Int, 0 ≤ fr ∧ fr ≤ n ∧ fr % (n : Int) = beginOf s.picks s.last n % (n : Int) ∧ Rg σ.τ [(1, d), (2, .ptr kb 0), (4, .ptr (kb + 1) 0), (6, .int .i64 fr)]) ?_ ?_
  · cases hpk : s.picks with
    | nil =>
      refine wa_cond (t := false) (by simp [hpk]) (fun h => by cases h) (fun _ => wa_skip ?_)
      refine ⟨rfl, lr + 1, by omega, by omega, ?_, by simp [Rg]⟩
      rw [begin_nil hf.l0 hf.l1]
      rcases hlr with h | ⟨h1, h2⟩
      · rw [h]
        split
        · rename_i e; rw [e]; simp
        · rfl
      · rw [h1, h2, if_pos (by omega)]; rfl
    | cons x xs =>
      rw [hpk] at hp hg
      obtain ⟨k0, o0, c0, hpe, hr0⟩ := (hA.il hp).at (n := 0) (by simp)
      simp at hr0 hpe
      have hnz : n ≠ 0 := by omega
      refine wa_cond (t := true) (by simp [hpk]) (fun _ => ?_) (fun h => by cases h)
      refine wa_dr rfl rfl ⟨_, by simp [q0, q1, hpe, hr0, hnz]; rfl, ?_⟩
      refine wa_sr ⟨_, by simp; rfl, ?_⟩
      have m1 := Int.tmod_lt_of_pos x (by omega : (0 : Int) < n)
      have m2 : -(n : Int) < x.tmod n := Int.lt_tmod_of_pos x (by omega)
      have m3 := begin_mod (x := x) (n := n) hn1
      have hbe : beginOf (x :: xs) s.last n % (n : Int) = x % (n : Int) := by
        rw [begin_cons hn1 hn64, m3, Int.emod_emod_of_dvd _ (Int.dvd_refl _)]
      rw [Int.tmod_eq_emod_of_nonneg (a := x.tmod n + n) (by omega)] at m3
      by_cases hneg : x.tmod n < 0
      · have hww : IntKind.i64.wrap (x.tmod n + n) = x.tmod n + n := w64 (by omega) (by omega)
        refine wa_cond (t := true) (by simp [hneg]) (fun _ => ?_) (fun h => by cases h)
        refine wa_regs ⟨_, by simp [q0, hww]; rfl, ?_⟩
        refine ⟨rfl, x.tmod n + n, by omega, by omega, ?_, by simp [Rg]⟩
        rw [hbe, m3]
      · refine wa_cond (t := false) (by simp; omega) (fun h => by cases h) (fun _ => wa_skip ?_)
        refine ⟨rfl, x.tmod n, by omega, by omega, ?_, by simp [Rg]⟩
        rw [hbe, ← m3]; simp
  · rintro ⟨τ, HB⟩ ⟨hHB, fr, f0, f1, f2, t1, t2, t4, t6, -⟩
    dsimp only at hHB t1 t2 t4 t6
    subst hHB
    refine wa_sr ⟨_, by simp; rfl, ?_⟩
    refine wa_sr ⟨_, by simp [t2, q0, hwn]; rfl, ?_⟩
    have hfr := fun i : Nat => from_same f2 f0 hb.1 i
    have hn0 : n ≠ 0 := by omega
    have hdA : BL HB d done := hA.bl hd
    -- who is told
    refine wa_cut (fun σ => σ.H = HB ∧ ∃ who : Int, Who done (beginOf s.picks s.last n) n 0 who ∧ Rg σ.τ [(1, d), (2, .ptr kb 0), (4, .ptr (kb + 1) 0), (7, .int .i64 who)]) ?_ ?_
    · refine wa_while (fun r σ => σ.H = HB ∧ ∃ (j : Nat) (who : Int), r = j ∧ j ≤ n ∧ Who done (beginOf s.picks s.last n) n j who ∧ Rg σ.τ [(1, d), (2, .ptr kb 0), (4, .ptr (kb + 1) 0), (6, .int .i64 fr), (7, .int .i64 who), (8, .int .i64 ((j : Int) - 1))]) n ⟨rfl, n, -1, rfl, Nat.le_refl _, .inl ⟨rfl, fun i h1 h2 => by omega⟩, by simp [Rg, t1, t2, t4, t6]⟩ ?_
      rintro r ⟨τ, H1⟩ ⟨hH1, j, who, rfl, hj, hwho, u1, u2, u4, u6, u7, u8, -⟩
      dsimp only at hH1 u1 u2 u4 u6 u7 u8
      subst hH1
      refine ⟨_, decide ((0 : Int) ≤ (r : Int) - 1), by simp [u8]; rfl, by simp, fun ht => ?_, fun hfl => ?_⟩
      · have hj1 : (0 : Int) ≤ (r : Int) - 1 := by simpa using ht
        obtain ⟨i, rfl⟩ : ∃ i, r = i + 1 := ⟨r - 1, by omega⟩
        have hi1 : ((i + 1 : Nat) : Int) - 1 = i := by omega
        rw [hi1] at u8
        have hnn : 0 ≤ (beginOf s.picks s.last n + (i : Int)).tmod (n : Int) := Int.tmod_nonneg _ (by omega)
        obtain ⟨w, hw⟩ := Int.eq_ofNat_of_zero_le hnn
        have hwf : IntKind.i64.wrap (fr + i) = fr + i := w64 (by omega) (by omega)
        have hisr := isr_ok hdA w
        have hfi := hfr i
        rw [hw] at hfi
        generalize hg' : done.getD w false = g at hisr
        have hwi : IntKind.i64.wrap ((i : Int) - 1) = (i : Int) - 1 := w64 (by omega) (by omega)
        refine wa_sr ⟨_, by simp [u2, u6, u8, q0, hwf, hn0, hfi]; rfl, ?_⟩
        have hW : done.getD ((beginOf s.picks s.last n + (i : Int)).tmod n).toNat false = g := by rw [hw]; exact hg'
        refine wa_sr ⟨_, by simp [u1, hisr]; rfl, ?_⟩
        cases g
        · refine wa_cond (t := true) (by simp) (fun _ => ?_) (fun h => by cases h)
          refine wa_regs ⟨_, by simp; rfl, ?_⟩
          exact ⟨_, by simp [u8, hwi]; rfl, i, by omega, rfl, i, w, rfl, by omega, .inr ⟨i, Nat.le_refl _, by omega, hw.symm, hW, fun i' h1 h2 => by omega⟩, by simp [Rg, u1, u2, u4, u6]⟩
        · refine wa_cond (t := false) (by simp) (fun h => by cases h) (fun _ => wa_skip ?_)
          refine ⟨_, by simp [u8, hwi]; rfl, i, by omega, rfl, i, who, rfl, by omega, ?_, by simp [Rg, u1, u2, u4, u6, u7]⟩
          rcases hwho with ⟨h1, h2⟩ | ⟨i2, h1, h2, h3, h4, h5⟩
          · refine .inl ⟨h1, fun i' h3 h4 => ?_⟩
            by_cases e : i' = i
            · subst e; exact hW
            · exact h2 i' (by omega) h4
          · refine .inr ⟨i2, by omega, h2, h3, h4, fun i' h6 h7 => ?_⟩
            by_cases e : i' = i
            · subst e; exact hW
            · exact h5 i' (by omega) h7
      · have hj0 : r = 0 := by
          have : ¬ (0 : Int) ≤ (r : Int) - 1 := by simpa using hfl
          omega
        subst hj0
        exact ⟨rfl, who, hwho, by simp [Rg, u1, u2, u4, u7]⟩
    · rintro ⟨τ1, H1⟩ ⟨hH1, who, hwho, u1, u2, u4, u7, -⟩
      dsimp only at hH1 u1 u2 u4 u7
      subst hH1
      clear t1 t2 t4 t6 τ
      have hft := hf.told
      rcases hwho with ⟨rfl, hall⟩ | ⟨i, _, hi, hwi, hnd, hbef⟩
      · -- nobody
        have hno := firstOf_none (fun j hj => hall j (by omega) hj)
        have hnx : s.next done = (none, s) := by unfold PS.next; rw [hft, hno]
        refine wa_sr ⟨_, by simp [u7]; rfl, ?_⟩
        refine wa_if (t := true) (by simp) (fun _ => ?_) (fun h => by cases h)
        have hrd : rdn H1 kb 0 5 = some [.int .i64 n, p, .int .i64 lr, t, .int .i64 s.ended] := by simp [rdn, hkk]
        have hk2 := hA.r0
        dsimp only at hk2
        obtain ⟨H2, hw2, hH2⟩ : ∃ X, wr H1 (kb + 1) 0 [.int .i64 n, p, .int .i64 lr, t, .int .i64 s.ended] = some X ∧ Hp H X [(kb + 1, .cells [.int .i64 n, p, .int .i64 lr, t, .int .i64 s.ended] .ex), (kb, .cells [.int .i64 n, p, .int .i64 lr, t, .int .i64 s.ended] .ex)] :=
          ⟨_, wrAll hk2 rfl rfl (by simp only [List.all_cons, List.all_nil, len_scalar hp.len, len_scalar ht.len]; rfl), hA.w0 _⟩
        refine wa_sr ⟨_, by simp [u2, u4, hrd, hw2]; rfl, ?_⟩
        refine wa_rt ?_
        have hk3 := hH2.r0
        dsimp only at hk3
        have hrd3 : rdn H2 (kb + 1) 0 5 = some [.int .i64 n, p, .int .i64 lr, t, .int .i64 s.ended] := by simp [rdn, hk3]
        rw [hnx]
        exact ⟨by simp, _, by simp [u4, hrd3]; rfl, by have := hH2.le; simp only; omega, fun k hk => hH2.old k (by omega), p, t, lr, rfl, hlr, hH2.il hp, fun hne => hH2.slG (hg hne), hH2.bl ht, fun k hk => hk, fun k hk => .inl hk⟩
      · -- somebody
        have hsm := firstOf_some hi (fun j hj => hbef j (by omega) hj) hnd
        have hnn : 0 ≤ (beginOf s.picks s.last n + (i : Int)).tmod (n : Int) := Int.tmod_nonneg _ (by omega)
        have hwlt := Int.tmod_lt_of_pos (beginOf s.picks s.last n + (i : Int)) (by omega : (0 : Int) < n)
        obtain ⟨w, hw⟩ := Int.eq_ofNat_of_zero_le hnn
        rw [hw] at hwi hwlt hsm
        rw [Int.toNat_natCast] at hsm
        have hnx : s.next done = (some w, ⟨s.picks.tail, w, toldOf s.told done w, endedOf s.told done w s.ended⟩) := by unfold PS.next; rw [hft, hsm]
        have hwn' : w < n := by omega
        have hw0 : ¬ ((w : Int) < 0) := by omega
        subst hwi
        rw [hnx]
        dsimp only
        refine wa_sr ⟨_, by simp [u7, hw0]; rfl, ?_⟩
        refine wa_if (t := false) (by simp) (fun h => by cases h) (fun _ => ?_)
        refine wa_sr ⟨_, by simp [u2, q1, hpc]; rfl, ?_⟩
        -- a pick is used up
        refine wa_cut (fun σ => ∃ p', (∀ k, p'.blk? = some k → p.blk? = some k) ∧ IL .i64 H p' s.picks.tail ∧ (s.picks.tail ≠ [] → SlG H 1 p') ∧ Hp H σ.H [(kb + 1, .cells [.int .i64 0, .nils, .int .i64 0, .nils, .int .i64 0] .ex), (kb, .cells [.int .i64 n, p', .int .i64 lr, t, .int .i64 s.ended] .ex)] ∧ Rg σ.τ [(1, d), (2, .ptr kb 0), (4, .ptr (kb + 1) 0), (7, .int .i64 w)]) ?_ ?_
        · cases hpk : s.picks with
          | nil =>
            refine wa_cond (t := false) (by simp [hpk]) (fun h => by cases h) (fun _ => wa_skip ?_)
            exact ⟨p, fun k hk => hk, by rw [hpk] at hp; exact hp, fun h => absurd rfl h, hA, by simp [Rg, u1, u2, u4, u7]⟩
          | cons z zs =>
            rw [hpk] at hp hg
            obtain ⟨p', hs, hp', hg', hb'⟩ := hp.tail (hg (by simp))
            have hsA : slcv H1 1 p (some (.int .i64 1)) none = some p' := by
              obtain ⟨p2, hs2, _⟩ := (hA.il hp).tail (hA.slG (hg (by simp)))
              have hsame : slcv H1 1 p (some (.int .i64 1)) none = slcv H 1 p (some (.int .i64 1)) none := by
                cases p with
                | sl k o l c =>
                  have : H1[k]? = H[k]? := hA.old k (Rw.lt hp k rfl)
                  simp only [slcv, this]
                | _ => rfl
              rw [hsame]; exact hs
            refine wa_cond (t := true) (by simp [hpk]) (fun _ => ?_) (fun h => by cases h)
            have hwr : wr H1 kb 1 [p'] = some (H1.set kb (.cells [.int .i64 n, p', .int .i64 lr, t, .int .i64 s.ended] .ex)) := wr1 (o := 1) (v := p') hkk rfl (by simp) (len_scalar hp'.len)
            refine wa_regs ⟨_, by simp [u2, q1, hsA, Rw.one hp', hwr]; rfl, ?_⟩
            exact ⟨p', hb', hp', fun _ => hg', hA.w1 _, by simp [Rg, u1, u2, u4, u7]⟩
        · clear u1 u2 u4 u7
          rintro ⟨τ, H2⟩ ⟨p', hb', hp', hg', hH2, u1, u2, u4, u7, -⟩
          dsimp only at hH2 u1 u2 u4 u7
          have hk2 := hH2.r1
          dsimp only at hk2
          -- who was told last
          obtain ⟨H3, w3, hH3⟩ : ∃ X, wr H2 kb 2 [.int .i64 w] = some X ∧ Hp H X [(kb + 1, .cells [.int .i64 0, .nils, .int .i64 0, .nils, .int .i64 0] .ex), (kb, .cells [.int .i64 n, p', .int .i64 w, t, .int .i64 s.ended] .ex)] := ⟨_, wr1 (o := 2) (v := .int .i64 w) hk2 rfl (by simp) rfl, hH2.w1 _⟩
          refine wa_sr ⟨_, by simp [u2, u7, w3]; rfl, ?_⟩
          have hk3 := hH3.r1
          dsimp only at hk3
          have q33 : rd H3 kb 3 = some t := by simp [rd, hk3]
          have ht3 := hH3.bl ht
          have htpos : 0 < s.told.length := by omega
          obtain ⟨x4, H4, a1, a2⟩ := appnew_ok (sz := 1) (by' := 1) ht3.len ht3.cells (Rw.lt ht3) (by simp [V.scalar]) (by simp) (by omega) (by unfold lim; omega)
          rcases a2 with ⟨h0, _⟩ | ⟨_, rfl, hH4e⟩
          · omega
          have hH4 := (hH3.a (.cells [] .ex)).tl.a (.cells (s.told.map .bool) (.gr 1))
          rw [← hH4e] at hH4
          have hl4 : (H3 ++ [Blk.cells [] .ex]).length = H3.length + 1 := by simp
          rw [hl4] at hH4
          have q33' : rd (H3 ++ [Blk.cells [] .ex]) kb 3 = some t := by
            have := ((hH3.a (.cells [] .ex)).tl).r1
            dsimp only at this
            simp [rd, this]
          refine wa_sr ⟨_, by simp [u2, q33', fillc, a1]; rfl, ?_⟩
          generalize hk4 : H3.length + 1 = k4 at *
          clear hH4e
          have hk40 := hH4.r0
          dsimp only at hk40
          -- told
          obtain ⟨H5, w5, hH5⟩ : ∃ X, wr H4 k4 w [.bool true] = some X ∧ Hp H X [(k4, .cells ((s.told.set w true).map .bool) (.gr 1)), (kb + 1, .cells [.int .i64 0, .nils, .int .i64 0, .nils, .int .i64 0] .ex), (kb, .cells [.int .i64 n, p', .int .i64 w, t, .int .i64 s.ended] .ex)] := ⟨_, wrB hk40 rfl (by omega) true, hH4.w0 _⟩
          rw [hft]
          refine wa_sr ⟨_, by simp [u7, hwn', w5]; rfl, ?_⟩
          refine wa_sr ⟨_, by simp; rfl, ?_⟩
          refine wa_sr ⟨_, by simp; rfl, ?_⟩
          have hk50 := hH5.r0
          have hk52 := hH5.r2
          dsimp only at hk50 hk52
          have q50 : rd H5 kb 0 = some (.int .i64 n) := by simp [rd, hk52]
          have hd5 : BL H5 d done := hH5.bl hd
          refine wa_cut (fun σ => σ.H = H5 ∧ Rg σ.τ [(2, .ptr kb 0), (4, .ptr (kb + 1) 0), (7, .int .i64 w), (10, .sl k4 0 n n), (11, .bool (allDone (s.told.set w true) done))]) ?_ ?_
          · refine wa_while (fun r σ => σ.H = H5 ∧ ∃ (j : Nat) (a : Bool), r = n - j ∧ j ≤ n ∧ (a = true ↔ ∀ i, i < j → (s.told.set w true).getD i false = true ∨ done.getD i false = true) ∧ Rg σ.τ [(1, d), (2, .ptr kb 0), (4, .ptr (kb + 1) 0), (7, .int .i64 w), (10, .sl k4 0 n n), (11, .bool a), (12, .int .i64 j)]) n ⟨rfl, 0, true, rfl, by omega, by simp, by simp [Rg, u1, u2, u4, u7]⟩ ?_
            rintro r ⟨τ, H6⟩ ⟨hH6, j, a, rfl, hj, ha, v1, v2, v4, v7, v10, v11, v12, -⟩
            dsimp only at hH6 v1 v2 v4 v7 v10 v11 v12
            subst hH6
            refine ⟨_, decide ((j : Int) < n), by simp [v2, v12, q50]; rfl, by simp, fun ht => ?_, fun hfl => ?_⟩
            · have hjn : j < n := by have : (j : Int) < n := by simpa using ht
                                     omega
              have hrt := rdB hk50 (by simp; omega : j < (s.told.set w true).length)
              have hisr := isr_ok hd5 j
              have hwj : IntKind.i64.wrap ((j : Int) + 1) = ((j + 1 : Nat) : Int) := by rw [w64 (by omega) (by omega)]; rfl
              have hstep : ∀ a' : Bool, a' = (a && ((s.told.set w true).getD j false || done.getD j false)) → (a' = true ↔ ∀ i, i < j + 1 → (s.told.set w true).getD i false = true ∨ done.getD i false = true) := fun a' ha' => by
                rw [ha', Bool.and_eq_true, Bool.or_eq_true, ha]
                constructor
                · rintro ⟨h1, h2⟩ i hi
                  by_cases e : i = j
                  · subst e; exact h2
                  · exact h1 i (by omega)
                · intro h; exact ⟨fun i hi => h i (by omega), h j (by omega)⟩
              generalize (s.told.set w true).getD j false = g1 at *
              generalize done.getD j false = g2 at *
              have fin : ∀ a' : Bool, a' = (a && (g1 || g2)) → ∀ τ' : Nat → V, Rg τ' [(1, d), (2, .ptr kb 0), (4, .ptr (kb + 1) 0), (7, .int .i64 w), (10, .sl k4 0 n n), (11, .bool a'), (12, .int .i64 j)] →
                  ∃ s3, insL (callL E) [⟨some 75, .mv (.t 12), none⟩, ⟨some 76, .bin .add (.t 75) (.c (.int .i64 1)), none⟩, ⟨some 12, .mv (.t 76), none⟩] ⟨τ', H6⟩ = some s3 ∧ ∃ m', m' < n - j ∧ s3.H = H6 ∧ ∃ (j : Nat) (a : Bool), m' = n - j ∧ j ≤ n ∧ (a = true ↔ ∀ i, i < j → (s.told.set w true).getD i false = true ∨ done.getD i false = true) ∧ Rg s3.τ [(1, d), (2, .ptr kb 0), (4, .ptr (kb + 1) 0), (7, .int .i64 w), (10, .sl k4 0 n n), (11, .bool a), (12, .int .i64 j)] := by
                rintro a' ha' τ' ⟨x1, x2, x4, x7, x10, x11, x12, -⟩
                exact ⟨_, by simp [x12, hwj]; rfl, n - (j + 1), by omega, rfl, j + 1, a', rfl, by omega, hstep a' ha', by simp [Rg, x1, x2, x4, x7, x10, x11]⟩
              cases a
              · refine wa_regs ⟨_, by simp [v11]; rfl, ?_⟩
                exact fin false (by simp) _ (by simp [Rg, v1, v2, v4, v7, v10, v12])
              · cases g1
                · refine wa_regs ⟨_, by simp [v1, v10, v11, v12, hjn, hrt, hisr]; rfl, ?_⟩
                  exact fin g2 (by simp) _ (by simp [Rg, v1, v2, v4, v7, v10, v12])
                · refine wa_regs ⟨_, by simp [v1, v10, v11, v12, hjn, hrt]; rfl, ?_⟩
                  exact fin true (by simp) _ (by simp [Rg, v1, v2, v4, v7, v10, v12])
            · have hjn : j = n := by
                have : ¬ (j : Int) < n := by simpa using hfl
                omega
              subst hjn
              have : a = allDone (s.told.set w true) done := by
                rw [Bool.eq_iff_iff, ha, allDone_iff]
                simp only [List.length_set, hft]
              subst this
              exact ⟨rfl, by simp [Rg, v2, v4, v7, v10, v11]⟩
          · clear u1 u2 u4 u7 τ
            rintro ⟨τ, H6⟩ ⟨hH6, u2, u4, u7, u10, u11, -⟩
            dsimp only at hH6 u2 u4 u7 u10 u11
            subst hH6
            refine wa_sr ⟨_, by simp [u11]; rfl, ?_⟩
            refine wa_cut (fun σ => ∃ t', (∀ k, t'.blk? = some k → H.length ≤ k) ∧ BL σ.H t' (toldOf s.told done w) ∧ Hp H σ.H [(kb + 1, .cells [.int .i64 0, .nils, .int .i64 0, .nils, .int .i64 0] .ex), (kb, .cells [.int .i64 n, p', .int .i64 w, t, .int .i64 (endedOf s.told done w s.ended)] .ex)] ∧ (∀ k, t'.blk? = some k → k ≠ kb ∧ k ≠ kb + 1) ∧ Rg σ.τ [(2, .ptr kb 0), (4, .ptr (kb + 1) 0), (7, .int .i64 w), (10, t')]) ?_ ?_
            · have q54 : rd H6 kb 4 = some (.int .i64 s.ended) := by simp [rd, hk52]
              by_cases hall : allDone (s.told.set w true) done = true
              · simp only [toldOf, endedOf, if_pos hall, hft]
                obtain ⟨H7, w7, hH7⟩ : ∃ X, wr H6 kb 4 [.int .i64 (IntKind.i64.wrap (s.ended + 1))] = some X ∧ Hp H X [(kb + 1, .cells [.int .i64 0, .nils, .int .i64 0, .nils, .int .i64 0] .ex), (kb, .cells [.int .i64 n, p', .int .i64 w, t, .int .i64 (IntKind.i64.wrap (s.ended + 1))] .ex)] := ⟨_, wr1 (o := 4) (v := .int .i64 (IntKind.i64.wrap (s.ended + 1))) hk52 rfl (by simp) rfl, (hH5.w2 _).tl⟩
                refine wa_cond (t := true) (by simp [hall]) (fun _ => ?_) (fun h => by cases h)
                refine wa_sr ⟨_, by simp [u2, q54, w7]; rfl, ?_⟩
                have hk71 := hH7.r1
                dsimp only at hk71
                have q70 : rd H7 kb 0 = some (.int .i64 n) := by simp [rd, hk71]
                have hlimm : (0 : Int) ≤ n ∧ (n : Int) ≤ (lim : Nat) ∧ (n : Int) * (1 : Nat) ≤ 2 ^ 40 := by unfold lim; omega
                have hbig : (n : Int) ≤ 1099511627776 := by omega
                refine wa_regs ⟨_, by simp [u2, q70, hlimm, hbig, flatRep]; rfl, ?_⟩
                have hH8 := hH7.a (.cells (List.replicate n (.bool false)) .ex)
                have hl7 := hH7.lt 0 rfl
                refine ⟨.sl H7.length 0 n n, fun k hk => ?_, ?_, hH8.tl, fun k hk => ?_, by simp [Rg, u2, u4, u7]⟩
                · simp [V.blk?] at hk; subst hk; exact hH7.le
                · have h8 := hH8.r0
                  dsimp only at h8
                  rw [show List.replicate n (V.bool false) = (List.replicate n false).map .bool by simp] at h8
                  have := BL.own (c := n) h8
                  simpa using this
                · simp [V.blk?] at hk; subst hk; omega
              · simp only [toldOf, endedOf, if_neg hall]
                refine wa_cond (t := false) (by simp [hall]) (fun h => by cases h) (fun _ => wa_skip ?_)
                have hl4' := hH5.ge 0 rfl
                refine ⟨.sl k4 0 n n, fun k hk => ?_, ?_, hH5.tl, fun k hk => ?_, by simp [Rg, u2, u4, u7, u10]⟩
                · simp [V.blk?] at hk; subst hk; exact hl4'
                · have := BL.own (c := n) hk50
                  simpa [hft] using this
                · simp [V.blk?] at hk; subst hk
                  have := hH3.lt 0 rfl
                  omega
            · rintro ⟨τ, H7⟩ ⟨t', b1, b2, hH7, b3, u2, u4, u7, u10, -⟩
              dsimp only at b2 hH7 u2 u4 u7 u10
              have hk7 := hH7.r1
              dsimp only at hk7
              obtain ⟨H8, w8, hH8, f8⟩ : ∃ X, wr H7 kb 3 [t'] = some X ∧ Hp H X [(kb + 1, .cells [.int .i64 0, .nils, .int .i64 0, .nils, .int .i64 0] .ex), (kb, .cells [.int .i64 n, p', .int .i64 w, t', .int .i64 (endedOf s.told done w s.ended)] .ex)] ∧ ∀ k, k ≠ kb → X[k]? = H7[k]? := ⟨_, wr1 (o := 3) (v := t') hk7 rfl (by simp) (len_scalar b2.len), hH7.w1 _, fun k hk => List.getElem?_set_ne (by omega)⟩
              refine wa_sr ⟨_, by simp [u2, u10, Rw.one b2, w8]; rfl, ?_⟩
              have hk81 := hH8.r1
              have hk80 := hH8.r0
              dsimp only at hk81 hk80
              have hrd : rdn H8 kb 0 5 = some [.int .i64 n, p', .int .i64 w, t', .int .i64 (endedOf s.told done w s.ended)] := by simp [rdn, hk81]
              obtain ⟨H9, w9, hH9, f9⟩ : ∃ X, wr H8 (kb + 1) 0 [.int .i64 n, p', .int .i64 w, t', .int .i64 (endedOf s.told done w s.ended)] = some X ∧ Hp H X [(kb + 1, .cells [.int .i64 n, p', .int .i64 w, t', .int .i64 (endedOf s.told done w s.ended)] .ex), (kb, .cells [.int .i64 n, p', .int .i64 w, t', .int .i64 (endedOf s.told done w s.ended)] .ex)] ∧ ∀ k, k ≠ kb + 1 → X[k]? = H8[k]? :=
                ⟨_, wrAll hk80 rfl rfl (by simp only [List.all_cons, List.all_nil, len_scalar hp'.len, len_scalar b2.len]; rfl), hH8.w0 _, fun k hk => List.getElem?_set_ne (by omega)⟩
              refine wa_sr ⟨_, by simp [u2, u4, u7, hrd, w9]; rfl, ?_⟩
              refine wa_ret ?_
              have hk90 := hH9.r0
              dsimp only at hk90
              have hrd9 : rdn H9 (kb + 1) 0 5 = some [.int .i64 n, p', .int .i64 w, t', .int .i64 (endedOf s.told done w s.ended)] := by simp [rdn, hk90]
              refine ⟨by simp, _, by simp [u4, hrd9]; rfl, by have := hH9.le; simp only; omega, fun k hk => hH9.old k (by omega), p', t', w, rfl, .inl rfl, hH9.il hp', fun hne => hH9.slG (hg' hne), b2.frame fun k hk => ?_, hb', fun k hk => .inr (by have := b1 k hk; omega)⟩
              have := b3 k hk
              simp only
              rw [f9 k this.2, f8 k this.1]
end Go.Proofs.Yteogambpkgkmhaa
