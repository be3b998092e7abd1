/- Next. -/
import Derived.Test.YteogambpkgkmhaaSc
set_option linter.unusedSimpArgs false
set_option linter.unusedVariables false
namespace Go.Proofs.Yteogambpkgkmhaa
open Go Go.Ar
set_option maxRecDepth 100000

theorem Sc.via {H H' : Heap} {q kt : Nat} {p : V} {picks : List Int} {last : Int} {told : List Bool} {ended : Int} (h : Sc H q kt p picks last told ended) (e1 : H'[q]? = H[q]?) (e2 : H'[kt]? = H[kt]?)
    (e3 : ∀ k, p.blk? = some k → H'[k]? = H[k]?) (hl : H.length ≤ H'.length) : Sc H' q kt p picks last told ended :=
  ⟨e1.trans h.hq, e2.trans h.ht, h.hp.frame e3, fun hn => (h.hg hn).frame e3, h.ne, h.pos, h.pq, fun k hk => Nat.lt_of_lt_of_le (h.plt k hk) hl⟩

theorem firstOf_none {done : List Bool} {b : Int} {n : Nat} (h : ∀ j, j < n → done.getD ((b + (j : Int)).tmod (n : Int)).toNat false = true) : firstOf done b n = none := by
  unfold firstOf
  rw [List.find?_eq_none]
  intro x hx
  obtain ⟨j, hj, rfl⟩ := List.mem_map.1 hx
  rw [h j (by simpa using hj)]
  simp
theorem firstOf_some {done : List Bool} {b : Int} {n i : Nat} (hi : i < n) (h : ∀ j, j < i → done.getD ((b + (j : Int)).tmod (n : Int)).toNat false = true) (h1 : done.getD ((b + (i : Int)).tmod (n : Int)).toNat false = false) :
    firstOf done b n = some ((b + (i : Int)).tmod (n : Int)).toNat := by
  unfold firstOf
  rw [List.find?_map]
  have : (List.range n).find? ((fun w => !(done.getD w false)) ∘ fun i : Nat => ((b + (i : Int)).tmod (n : Int)).toNat) = some i := by
    rw [List.find?_range_eq_some]
    refine ⟨by simp only [Function.comp]; rw [h1]; rfl, by simpa using hi, fun j hj => ?_⟩
    simp only [Function.comp]
    rw [h j hj]; rfl
  rw [this]; rfl

theorem next_ok {H : Heap} {q kt : Nat} {p d : V} {picks : List Int} {last : Int} {told done : List Bool} {ended : Int} (h : Sc H q kt p picks last told ended) (hd : BL H d done) (hdq : ∀ k, d.blk? = some k → k ≠ q ∧ k ≠ kt ∧ k < H.length)
    (hsz : (told.length : Int) ≤ 2 ^ 40) (hl : IntKind.i64.wrap (last + 1) = last + 1) (hb : 0 ≤ beginOf picks last told.length ∧ beginOf picks last told.length < told.length) :
    ∃ v H', callL E (.f 10) [.ptr q 0, d] H = some (v, H') ∧ H.length ≤ H'.length ∧ (∀ k, k < H.length → k ≠ q → k ≠ kt → H'[k]? = H[k]?) ∧
      match firstOf done (beginOf picks last told.length) told.length with
      | some w => v = .tup [.int .i64 w, .bool true] ∧ ∃ p', (∀ k, p'.blk? = some k → p.blk? = some k) ∧ Sc H' q kt p' picks.tail w (toldOf told done w) (endedOf told done w ended)
      | none => v = .tup [.int .i64 0, .bool false] ∧ Sc H' q kt p picks last told ended := by
  rw [call_E rfl fc10_ok rfl]
  refine wa_finish ?_
  unfold fc10
  dsimp only
  have hdc : d.cells = some [d] := Rw.one hd
  obtain ⟨HB, hHB⟩ : ∃ X, X = H ++ [.cells [.ptr q 0] .ex] ++ [.cells [d] .ex] ++ [.cells [.int .i64 0] .ex] ++ [.cells [.bool false] .ex] := ⟨_, rfl⟩
  have hlB : HB.length = H.length + 4 := by simp [hHB]
  have hB : ∀ k, k < H.length → HB[k]? = H[k]? := fun k hk => by simp [hHB, List.getElem?_append_left, hk]
  have hB0 : HB[H.length]? = some (.cells [.ptr q 0] .ex) := by simp [hHB]
  have hB1 : HB[H.length + 1]? = some (.cells [d] .ex) := by simp [hHB]
  have hB2 : HB[H.length + 2]? = some (.cells [.int .i64 0] .ex) := by simp [hHB]
  have hB3 : HB[H.length + 3]? = some (.cells [.bool false] .ex) := by simp [hHB]
  refine wa_seq (wa_reg (s' := ⟨upd (upd (upd (upd (args0 [.ptr q 0, d]) 2 (.ptr H.length 0)) 3 (.ptr (H.length + 1) 0)) 4 (.ptr (H.length + 2) 0)) 5 (.ptr (H.length + 3) 0), HB⟩) (by simp [hdc, hHB]) ?_)
  clear hHB
  have hS := h.mono hB (by omega)
  have hdB : BL HB d done := hd.frame fun k hk => hB k (hdq k hk).2.2
  have r2 : rd HB H.length 0 = some (.ptr q 0) := by simp [rd, hB0]
  have hno := none_ok hS.r2 hS.bl
  have hne : (told.length == 0) = false := by have := h.pos; cases told with | nil => simp at this | cons => rfl
  rw [hne] at hno
  refine wa_seq (wa_seq (wa_regs ⟨_, by simp [r2, hno]; rfl, ?_⟩))
  refine wa_cond (t := false) (by simp) (fun h => by cases h) (fun _ => wa_skip ?_)
  -- the call of begin, with nothing to be written
  have hbeg : pcall (callL E) [] (.f 18) [.ptr q 0] HB = some (.int .i64 (beginOf picks last told.length), HB) := by
    refine pcall_same (begin_ok (told := told) (rd_prot (by simp) hS.r0) (rd_prot (by simp) hS.r1) (rd_prot (by simp) hS.r2) (hS.bl.prot fun k _ => by simp) (hS.hp.prot fun k _ => by simp) h.pos hl)
  have hfrom := from_ok (H := HB) (q := q) (w := beginOf picks last told.length)
  obtain ⟨HC, hHC⟩ : ∃ X, X = HB ++ [.cells [.ptr q 0] .ex] ++ [.cells [.int .i64 (beginOf picks last told.length)] .ex] := ⟨_, rfl⟩
  rw [← hHC] at hfrom
  have hlC : HC.length = H.length + 6 := by simp [hHC, hlB]
  have hC : ∀ k, k < HB.length → HC[k]? = HB[k]? := fun k hk => by simp [hHC, List.getElem?_append_left, hk]
  have hC4 : HC[H.length + 4]? = some (.cells [.ptr q 0] .ex) := by rw [← hlB]; simp [hHC]
  have hC5 : HC[H.length + 5]? = some (.cells [.int .i64 (beginOf picks last told.length)] .ex) := by
    have : H.length + 5 = HB.length + 1 := by omega
    rw [this]; simp [hHC]
  refine wa_seq (wa_seq (wa_dreg (s' := _) (by simp [dinsL, dins, r2, hbeg, hfrom]; rfl) (by simp) ?_))
  have hSC : Sc HC q kt p picks last told ended := hS.mono hC (by omega)
  have hdC : BL HC d done := hdB.frame fun k hk => hC k (by have := (hdq k hk).2.2; omega)
  refine wa_gen (fun τ => τ 2 = .ptr H.length 0 ∧ τ 3 = .ptr (H.length + 1) 0 ∧ τ 4 = .ptr (H.length + 2) 0 ∧ τ 5 = .ptr (H.length + 3) 0 ∧ τ 12 = .fn 24 [] [.ptr HB.length 0, .ptr (HB.length + 1) 0]) ⟨by simp, by simp, by simp, by simp, by simp⟩ ?_
  rintro τ ⟨t2, t3, t4, t5, t12⟩
  refine wa_block (wa_rangef (g := 24) (a := []) (b := [.ptr HB.length 0, .ptr (HB.length + 1) 0]) (by simp [t12]) ?_)
  dsimp only
  generalize hasg : (MC.reg [⟨some 6, .mv (.t 13), none⟩]) = asg
  generalize hbody : (MC.block 1 _) = body
  obtain ⟨HL, hHL⟩ : ∃ X, X = HC ++ [.lp τ [13] asg body .ready] := ⟨_, rfl⟩
  have hlL : HL.length = H.length + 7 := by simp [hHL, hlC]
  have hL : ∀ k, k < HC.length → HL[k]? = HC[k]? := fun k hk => by simp [hHL, List.getElem?_append_left, hk]
  have hLy : HL[HC.length]? = some (.lp τ [13] asg body .ready) := by simp [hHL]
  have hSL : Sc HL q kt p picks last told ended := hSC.mono hL (by omega)
  have hdL : BL HL d done := hdC.frame fun k hk => hL k (by have := (hdq k hk).2.2; omega)
  rw [← hHL]
  have hqlt : q < H.length := (List.getElem?_eq_some_iff.1 h.hq).1
  have hktlt : kt < H.length := (List.getElem?_eq_some_iff.1 h.ht).1
  have rb1 : rd HL HB.length 0 = some (.ptr q 0) := by
    have e : HL[HB.length]? = some (.cells [.ptr q 0] .ex) := by rw [hL _ (by omega), hlB]; exact hC4
    simp [rd, e]
  have rb2 : rd HL (HB.length + 1) 0 = some (.int .i64 (beginOf picks last told.length)) := by
    have e : HL[HB.length + 1]? = some (.cells [.int .i64 (beginOf picks last told.length)] .ex) := by rw [hL _ (by omega), hlB]; exact hC5
    simp [rd, e]
  let wk : Nat → Nat := fun i => ((beginOf picks last told.length + (i : Int)).tmod (told.length : Int)).toNat
  have hfrom1 := from1_ok (y := HC.length) (b1 := HB.length) (b2 := HB.length + 1) (q := q) (n := told.length) (t := .sl kt 0 told.length told.length) (w := beginOf picks last told.length) (H := HL)
    (fun i H' => H' = HL ∧ ∀ j, j < i → done.getD (wk j) false = true)
    (fun H' => ∃ i, i < told.length ∧ (∀ j, j < i → done.getD (wk j) false = true) ∧ done.getD (wk i) false = false ∧ H'.length = HL.length ∧ (∀ k, k < H.length → k ≠ q → k ≠ kt → H'[k]? = HL[k]?) ∧ rd H' (H.length + 2) 0 = some (.int .i64 (wk i)) ∧ rd H' (H.length + 3) 0 = some (.bool true) ∧
      (∃ τ1 ps1 asg1 body1, H'[HC.length]? = some (.lp τ1 ps1 asg1 body1 (.done .ret))) ∧ ∃ p', (∀ k, p'.blk? = some k → p.blk? = some k) ∧ Sc H' q kt p' picks.tail (wk i) (toldOf told done (wk i)) (endedOf told done (wk i) ended))
    ⟨rfl, fun j hj => by omega⟩ (fun i H' hI => by rw [hI.1]; exact rb2) rb1 hSL.r2 rfl h.pos
    (fun i hi => by have := hb; simp [IntKind.wrap, IntKind.bits, IntKind.signed]; omega) hsz ?step
  case step =>
    rintro i H' hi ⟨hH', hall⟩
    subst H'
    have hnn : 0 ≤ (beginOf picks last told.length + (i : Int)).tmod (told.length : Int) := Int.tmod_nonneg _ (by have := hb.1; omega)
    have hwk : ((wk i : Nat) : Int) = (beginOf picks last told.length + (i : Int)).tmod (told.length : Int) := Int.toNat_of_nonneg hnn
    have hwlt : wk i < told.length := by
      have := Int.tmod_lt_of_pos (beginOf picks last told.length + (i : Int)) (by have := h.pos; omega : (0 : Int) < told.length)
      omega
    rw [← hwk]
    generalize hw0 : wk i = w at hwlt ⊢
    refine wa_round (R := fun b H2 => (b = true → _) ∧ (b = false → _)) hLy (by simp) ?_
    subst hasg
    refine wa_regs ⟨_, by simp [setps]; rfl, rfl, τ, [13], _, body, hLy, ?_⟩
    obtain ⟨Hb, hHb⟩ : ∃ X, X = HL.set HC.length (.lp τ [13] (MC.reg [⟨some 6, .mv (.t 13), none⟩]) body .busy) := ⟨_, rfl⟩
    have hbo : ∀ k, k < HC.length → Hb[k]? = HL[k]? := fun k hk => by rw [hHb, List.getElem?_set_ne (by omega)]
    have hby : Hb[HC.length]? = some (.lp τ [13] (MC.reg [⟨some 6, .mv (.t 13), none⟩]) body .busy) := by rw [hHb, List.getElem?_set_self (by omega)]
    have hback : Hb.set HC.length (.lp τ [13] (MC.reg [⟨some 6, .mv (.t 13), none⟩]) body .ready) = HL := by
      rw [hHb, List.set_set]
      refine List.ext_getElem? fun k => ?_
      by_cases e : HC.length = k
      · subst e; rw [List.getElem?_set_self (by omega)]; exact hLy.symm
      · rw [List.getElem?_set_ne e]
    have hlb : Hb.length = HL.length := by rw [hHb]; simp
    have hSb : Sc Hb q kt p picks last told ended := hSC.mono (fun k hk => (hbo k hk).trans (hL k hk)) (by omega)
    have hdb : BL Hb d done := hdL.frame fun k hk => hbo k (by have := (hdq k hk).2.2; omega)
    have hbB : ∀ k, k < HB.length → Hb[k]? = HB[k]? := fun k hk => ((hbo k (by omega)).trans (hL k (by omega))).trans (hC k hk)
    have rq : rd Hb H.length 0 = some (.ptr q 0) := by simp [rd, hbB _ (by omega : H.length < HB.length), hB0]
    have rdd : rd Hb (H.length + 1) 0 = some d := by simp [rd, hbB _ (by omega : H.length + 1 < HB.length), hB1]
    have hdn := isDone_ok hdb w
    generalize hgd : done.getD w false = g at hdn
    rw [← hHb]
    subst hbody
    refine wa_block (wa_seq (wa_regs ⟨_, by simp [t3, rdd, hdn]; rfl, ?_⟩))
    cases g
    · refine wa_cond (t := true) (by simp) (fun _ => ?_) (fun h => by cases h)
      obtain ⟨v1, Hc, hc1, rfl, hkc, p', hpb, hSc⟩ := tell_ok hSb hdb (fun k hk => ⟨(hdq k hk).1, (hdq k hk).2.1⟩) w hwlt hsz
      refine wa_seq (wa_regs ⟨_, by simp [t2, t3, rq, rdd, hc1]; rfl, ?_⟩)
      have hcB : ∀ k, k < HB.length → k ≠ q → k ≠ kt → Hc[k]? = HB[k]? := fun k hk a b => (hkc.2 k a b).trans (hbB k hk)
      have hc2 : Hc[H.length + 2]? = some (.cells [.int .i64 0] .ex) := (hcB _ (by omega) (by omega) (by omega)).trans hB2
      have hc3 : Hc[H.length + 3]? = some (.cells [.bool false] .ex) := (hcB _ (by omega) (by omega) (by omega)).trans hB3
      have hcl : Hc.length = HL.length := hkc.1.trans hlb
      have w1 : wr Hc (H.length + 2) 0 [.int .i64 w] = some (Hc.set (H.length + 2) (.cells [.int .i64 w] .ex)) := wr1 (o := 0) (v := .int .i64 w) hc2 rfl (by simp) rfl
      obtain ⟨Hd, hHd⟩ : ∃ X, X = Hc.set (H.length + 2) (.cells [.int .i64 w] .ex) := ⟨_, rfl⟩
      rw [← hHd] at w1
      have hd3 : Hd[H.length + 3]? = some (.cells [.bool false] .ex) := by rw [hHd, List.getElem?_set_ne (by omega)]; exact hc3
      have w2 : wr Hd (H.length + 3) 0 [.bool true] = some (Hd.set (H.length + 3) (.cells [.bool true] .ex)) := wr1 (o := 0) (v := .bool true) hd3 rfl (by simp) rfl
      obtain ⟨He, hHe⟩ : ∃ X, X = Hd.set (H.length + 3) (.cells [.bool true] .ex) := ⟨_, rfl⟩
      rw [← hHe] at w2
      have hel : He.length = HL.length := by rw [hHe, hHd]; simp [hcl]
      have heo : ∀ k, k ≠ H.length + 2 → k ≠ H.length + 3 → He[k]? = Hc[k]? := fun k a b => by rw [hHe, List.getElem?_set_ne (by omega), hHd, List.getElem?_set_ne (by omega)]
      have he2 : He[H.length + 2]? = some (.cells [.int .i64 w] .ex) := by rw [hHe, List.getElem?_set_ne (by omega), hHd, List.getElem?_set_self (by omega)]
      have he3 : He[H.length + 3]? = some (.cells [.bool true] .ex) := by rw [hHe, List.getElem?_set_self (by rw [hHd]; simp; omega)]
      refine wa_seq (wa_regs ⟨_, by simp [t4, t5, w1, w2]; rfl, ?_⟩)
      refine wa_ret ?_
      have hyc : He[HC.length]? = some (.lp τ [13] (MC.reg [⟨some 6, .mv (.t 13), none⟩]) _ .busy) := (heo _ (by omega) (by omega)).trans ((hkc.2 _ (by omega) (by omega)).trans hby)
      refine ⟨τ, [13], _, _, hyc, fun h => by simp at h, fun _ => ⟨i, hi, hall, by rw [hw0]; exact hgd, by simp [hel], fun k hk a b => ?_, ?_, ?_, ⟨τ, [13], _, _, List.getElem?_set_self (by rw [hel]; omega)⟩, p', hpb, ?_⟩⟩
      · rw [List.getElem?_set_ne (by omega)]
        exact (heo k (by omega) (by omega)).trans ((hkc.2 k a b).trans (hbo k (by omega)))
      · rw [hw0]; simp only [rd]; rw [List.getElem?_set_ne (by omega), he2]; rfl
      · simp only [rd]; rw [List.getElem?_set_ne (by omega), he3]; rfl
      · rw [hw0]
        refine hSc.via ?_ ?_ (fun k hk => ?_) (by simp; omega)
        · rw [List.getElem?_set_ne (by omega), heo _ (by omega) (by omega)]
        · rw [List.getElem?_set_ne (by omega), heo _ (by omega) (by omega)]
        · have := h.plt k (hpb k hk)
          rw [List.getElem?_set_ne (by omega), heo k (by omega) (by omega)]
    · refine wa_cond (t := false) (by simp) (fun h => by cases h) (fun _ => wa_skip ?_)
      refine ⟨τ, [13], _, _, hby, fun _ => ?_, fun h => by cases h⟩
      refine ⟨hback, fun j hj => ?_⟩
      by_cases e : j = i
      · subst e; rw [hw0]; exact hgd
      · exact hall j (by omega)
  obtain ⟨v, H', hcall, rfl, hcase⟩ := hfrom1
  refine ⟨_, H', hcall, ?_⟩
  rcases hcase with ⟨hHH, hall⟩ | ⟨i, hi, hall, hnot, hlen', hkeep, ra, rb, ⟨τ1, ps1, asg1, body1, hlp⟩, p', hpb, hSc⟩
  · subst H'
    refine ⟨τ, [13], asg, body, .ready, hLy, ?_⟩
    rw [firstOf_none hall]
    obtain ⟨Hz, hHz⟩ : ∃ X, X = HL.set HC.length .dead := ⟨_, rfl⟩
    have hzo : ∀ k, k < HC.length → Hz[k]? = HL[k]? := fun k hk => by rw [hHz, List.getElem?_set_ne (by omega)]
    have hzB : ∀ k, k < HB.length → Hz[k]? = HB[k]? := fun k hk => ((hzo k (by omega)).trans (hL k (by omega))).trans (hC k hk)
    have hzl : Hz.length = H.length + 7 := by rw [hHz]; simp [hlL]
    have w1 : wr Hz (H.length + 2) 0 [.int .i64 0] = some (Hz.set (H.length + 2) (.cells [.int .i64 0] .ex)) := wr1 (o := 0) (v := .int .i64 0) ((hzB _ (by omega)).trans hB2) rfl (by simp) rfl
    obtain ⟨Hd, hHd⟩ : ∃ X, X = Hz.set (H.length + 2) (.cells [.int .i64 0] .ex) := ⟨_, rfl⟩
    rw [← hHd] at w1
    have hd3 : Hd[H.length + 3]? = some (.cells [.bool false] .ex) := by rw [hHd, List.getElem?_set_ne (by omega)]; exact (hzB _ (by omega)).trans hB3
    have w2 : wr Hd (H.length + 3) 0 [.bool false] = some (Hd.set (H.length + 3) (.cells [.bool false] .ex)) := wr1 (o := 0) (v := .bool false) hd3 rfl (by simp) rfl
    obtain ⟨He, hHe⟩ : ∃ X, X = Hd.set (H.length + 3) (.cells [.bool false] .ex) := ⟨_, rfl⟩
    rw [← hHe] at w2
    have he2 : He[H.length + 2]? = some (.cells [.int .i64 0] .ex) := by rw [hHe, List.getElem?_set_ne (by omega), hHd, List.getElem?_set_self (by omega)]
    have he3 : He[H.length + 3]? = some (.cells [.bool false] .ex) := by rw [hHe, List.getElem?_set_self (by rw [hHd]; simp; omega)]
    have heo : ∀ k, k < H.length → He[k]? = H[k]? := fun k hk => by
      rw [hHe, List.getElem?_set_ne (by omega), hHd, List.getElem?_set_ne (by omega)]
      exact (hzB k (by omega)).trans (hB k hk)
    rw [← hHz]
    simp only [InBlk, After]
    refine wa_seq (wa_regs ⟨_, by simp [t4, t5, w1, w2]; rfl, ?_⟩)
    refine wa_ret ?_
    have q2 : rd He (H.length + 2) 0 = some (.int .i64 0) := by simp [rd, he2]
    have q3 : rd He (H.length + 3) 0 = some (.bool false) := by simp [rd, he3]
    exact ⟨by simp, [.int .i64 0, .bool false], by simp [t4, t5, q2, q3], by rw [hHe, hHd]; simp; omega, fun k hk _ _ => heo k hk, rfl, h.mono heo (by rw [hHe, hHd]; simp; omega)⟩
  · refine ⟨τ1, ps1, asg1, body1, .done .ret, hlp, ?_⟩
    rw [firstOf_some hi hall hnot]
    simp only [InBlk, After]
    obtain ⟨Hz, hHz⟩ : ∃ X, X = H'.set HC.length .dead := ⟨_, rfl⟩
    have hzo : ∀ k, k ≠ HC.length → Hz[k]? = H'[k]? := fun k hk => by rw [hHz, List.getElem?_set_ne (by omega)]
    rw [← hHz]
    have q2 : rd Hz (H.length + 2) 0 = some (.int .i64 (wk i)) := by
      simp only [rd] at ra ⊢; rw [hzo _ (by omega)]; exact ra
    have q3 : rd Hz (H.length + 3) 0 = some (.bool true) := by
      simp only [rd] at rb ⊢; rw [hzo _ (by omega)]; exact rb
    refine ⟨by simp, [.int .i64 (wk i), .bool true], by simp [t4, t5, q2, q3], by rw [hHz]; simp; omega, fun k hk a b => ?_, rfl, p', hpb, ?_⟩
    · rw [hzo k (by omega), hkeep k hk a b, hL k (by omega), hC k (by omega)]
      exact hB k hk
    · exact hSc.via (hzo _ (by omega)) (hzo _ (by omega)) (fun k hk => hzo k (by have := h.plt k (hpb k hk); omega)) (by rw [hHz]; simp)
end Go.Proofs.Yteogambpkgkmhaa
