/- A region that draws its order, whole. -/
import Derived.Test.YtpojdgeginigjaaAr16
set_option linter.unusedSimpArgs false
set_option linter.unusedVariables false
namespace Go.Ar
open Go.RowKit

variable {P : Program} {B0 : Nat} {w0 : World} {ρ : Rho} {H : Heap} {D : List Nat} {w : World} {nt : Nat} {τ τ' : Nat → V} {a : Act} {call : CallF} {N nh : Nat}

/-! ### What the compiler has looked at -/
theorem nums_length : ∀ (is : List Ins) (n : Nat), (nums is n).length = is.length
  | [], _ => rfl
  | x :: xs, n => by simp [nums, nums_length xs]
theorem modes_length (bs : List Nat) (is : List Ins) : (modes bs is).length = is.length := by
  simp [modes, nums_length]
theorem modes_get {bs : List Nat} {is : List Ins} {j : Nat} {d : DM × Ins} (h : (modes bs is)[j]? = some d) : is[j]? = some d.2 := by
  unfold modes at h
  simp only [List.getElem?_map, Option.map_eq_some_iff] at h
  obtain ⟨x, hx, rfl⟩ := h
  rw [List.getElem?_zipIdx] at hx
  simp only [Option.map_eq_some_iff] at hx
  obtain ⟨y, hy, rfl⟩ := hx
  rw [List.getElem?_zip_eq_some] at hy
  exact hy.1

theorem rowOk_spec {bs : List Nat} {x : (DM × Ins) × Nat} : ∀ {l : List ((DM × Ins) × Nat)} {cs : List Chk}, rowOk bs x l = some cs → ∀ y ∈ l, ∃ c, pairOk bs x y = some c ∧ ∀ k ∈ c, k ∈ cs
  | [], _, _, y, hy => by cases hy
  | z :: l, cs, h, y, hy => by
    simp only [rowOk] at h
    split at h
    · rename_i c1 c2 h1 h2
      cases h
      rcases List.mem_cons.1 hy with rfl | hy
      · exact ⟨c1, h1, fun k hk => List.mem_append_left _ hk⟩
      · obtain ⟨c, h3, h4⟩ := rowOk_spec h2 y hy
        exact ⟨c, h3, fun k hk => List.mem_append_right _ (h4 k hk)⟩
    · cases h
theorem allOk_spec {bs : List Nat} : ∀ {l : List ((DM × Ins) × Nat)} {cs : List Chk}, allOk bs l = some cs → (∀ x ∈ l, selfOk x.1 = true) ∧ l.Pairwise fun x y => ∃ c, pairOk bs x y = some c ∧ ∀ k ∈ c, k ∈ cs
  | [], _, _ => ⟨fun _ h => (by cases h), List.Pairwise.nil⟩
  | x :: l, cs, h => by
    simp only [allOk] at h
    split at h
    · rename_i hs
      split at h
      · rename_i c1 c2 h1 h2
        cases h
        obtain ⟨h3, h4⟩ := allOk_spec h2
        refine ⟨fun y hy => ?_, List.Pairwise.cons (fun y hy => ?_) (h4.imp fun hc => ?_)⟩
        · rcases List.mem_cons.1 hy with rfl | hy
          · exact hs
          · exact h3 y hy
        · obtain ⟨c, h5, h6⟩ := rowOk_spec h1 y hy
          exact ⟨c, h5, fun k hk => List.mem_append_left _ (h6 k hk)⟩
        · obtain ⟨c, h5, h6⟩ := hc
          exact ⟨c, h5, fun k hk => List.mem_append_right _ (h6 k hk)⟩
      · cases h
    · cases h

theorem nw_of {x z : DM × Ins} (h : nwB x z = true) : NW x z := by
  unfold nwB at h
  rcases Bool.or_eq_true _ _ ▸ h with h | h
  · exact .inl h
  · refine .inr fun d hd => ?_
    rw [hd] at h
    simpa using h

def holeOf (d : DM × Ins) : Option Nat := match d.1 with | .hole j => some j | _ => none
theorem kd_hole {d : DM × Ins} {j : Nat} (h : kd d = .hole j) : holeOf d = some j := by
  obtain ⟨m, x⟩ := d
  unfold kd at h
  cases m <;> cases hc : x.i.cl <;> simp [hc] at h <;> simp [holeOf, h]
theorem holes_lt : ∀ {l : List (DM × Ins)} {d : DM × Ins} {j : Nat}, d ∈ l → holeOf d = some j → j < holes l
  | [], _, _, h, _ => by cases h
  | e :: l, d, j, h, hj => by
    obtain ⟨m, x⟩ := e
    rcases List.mem_cons.1 h with rfl | h
    · cases m <;> simp [holeOf] at hj
      subst hj
      simp only [holes]; omega
    · have := holes_lt h hj
      cases m <;> simp only [holes] <;> omega

theorem pairOk_spec {bs : List Nat} {x y : (DM × Ins) × Nat} {c : List Chk} (h : pairOk bs x y = some c) :
    NW x.1 y.1 ∧ (∀ j, holeOf x.1 = some j → holeOf y.1 ≠ some j) ∧ ((bs.getD y.2 0).testBit x.2 = true ∨ (x.1.2.apart y.1.2 = true ∧ pairK (kd x.1) (kd y.1) (sameZero x.1.2.i y.1.2.i) = some c)) := by
  unfold pairOk at h
  split at h
  · rename_i hc
    rw [Bool.and_eq_true] at hc
    refine ⟨nw_of hc.1, ?_, ?_⟩
    · intro j hj hj'
      obtain ⟨⟨m, x⟩, i⟩ := x
      obtain ⟨⟨m', x'⟩, i'⟩ := y
      cases m <;> simp [holeOf] at hj
      cases m' <;> simp [holeOf] at hj'
      subst hj; subst hj'
      simp [holeNe] at hc
    · split at h
      · rename_i hb; exact .inl hb
      · split at h
        · rename_i ha; exact .inr ⟨ha, h⟩
        · cases h
  · cases h

/-! ### What stands ahead of each -/
def bef1 (acc : List Nat) (o : Oper) : Nat := o.after.toList.foldl (fun s e => if Region.binds .any e then s ||| 2 ^ e.on ||| acc.getD e.on 0 else s) 0
theorem bef1_spec {acc : List Nat} {x : Nat} : ∀ (l : List Edge) (s : Nat), (l.foldl (fun s e => if Region.binds .any e then s ||| 2 ^ e.on ||| acc.getD e.on 0 else s) s).testBit x = true →
    s.testBit x = true ∨ ∃ e ∈ l, Region.binds .any e = true ∧ (x = e.on ∨ (acc.getD e.on 0).testBit x = true)
  | [], s, h => .inl h
  | e :: l, s, h => by
    simp only [List.foldl_cons] at h
    rcases bef1_spec l _ h with h | ⟨e', he, h⟩
    · split at h
      · rename_i hb
        rw [Nat.testBit_or, Nat.testBit_or, Nat.testBit_two_pow] at h
        simp only [Bool.or_eq_true, decide_eq_true_eq] at h
        rcases h with (h | h) | h
        · exact .inl h
        · exact .inr ⟨e, by simp, hb, .inl h.symm⟩
        · exact .inr ⟨e, by simp, hb, .inr h⟩
      · exact .inl h
    · exact .inr ⟨e', by simp [he], h⟩

theorem befs_fold : ∀ (ops : List Oper) (acc : List Nat), ∃ r, ops.foldl (fun acc o => acc ++ [bef1 acc o]) acc = acc ++ r ∧ r.length = ops.length ∧
    ∀ (j : Nat) (o : Oper), ops[j]? = some o → r[j]? = some (bef1 ((acc ++ r).take (acc.length + j)) o)
  | [], acc => ⟨[], by simp, rfl, fun j o h => by simp at h⟩
  | o :: ops, acc => by
    obtain ⟨r, h1, h2, h3⟩ := befs_fold ops (acc ++ [bef1 acc o])
    refine ⟨bef1 acc o :: r, by rw [List.foldl_cons, h1]; simp, by simp [h2], fun j q hj => ?_⟩
    cases j with
    | zero => simp at hj; subst hj; simp
    | succ j =>
      simp only [List.getElem?_cons_succ] at hj ⊢
      have := h3 j q hj
      rw [this]
      congr 2
      simp only [List.append_assoc, List.singleton_append, List.length_append, List.length_cons, List.length_nil]
      congr 1
      omega

theorem befs_spec {ops : List Oper} {i x : Nat} {o : Oper} (ho : ops[i]? = some o) (h : ((befs ops).getD i 0).testBit x = true) :
    ∃ e ∈ o.after.toList, Region.binds .any e = true ∧ (x = e.on ∨ ((befs ops).getD e.on 0).testBit x = true) := by
  obtain ⟨r, h1, h2, h3⟩ := befs_fold ops []
  have hb : befs ops = r := by unfold befs; simpa [bef1] using h1
  have hi := h3 i o ho
  rw [hb] at h ⊢
  rw [List.getD_eq_getElem?_getD, hi] at h
  simp only [List.nil_append, List.length_nil, Nat.zero_add, Option.getD_some] at h
  rcases bef1_spec _ _ h with h | ⟨e, he, hbi, h⟩
  · simp at h
  · refine ⟨e, he, hbi, h.imp id fun h => ?_⟩
    rw [List.getD_eq_getElem?_getD, List.getElem?_take] at h
    split at h
    · rwa [List.getD_eq_getElem?_getD]
    · simp at h

/-! ### The order that is drawn -/
structure DrawOk (ops : Array Oper) (dl : List (DM × Ins)) (cs : List Chk) (nt : Nat) (P : Program) : Prop where
  len : dl.length = ops.size
  ins : ∀ (i : Nat) (o : Oper), ops[i]? = some o → ∃ d, dl[i]? = some d ∧ compIns P nt ops.toList o = some d.2
  self : ∀ d ∈ dl, NW d d
  pair : ∀ (i j : Nat) (x y : DM × Ins), i < j → dl[i]? = some x → dl[j]? = some y → NW x y ∧ (∀ k, holeOf x = some k → holeOf y ≠ some k) ∧
    (((befs ops.toList).getD j 0).testBit i = true ∨ (x.2.apart y.2 = true ∧ ∃ c, pairK (kd x) (kd y) (sameZero x.2.i y.2.i) = some c ∧ ∀ k ∈ c, k ∈ cs))
  back : ∀ (i : Nat) (o : Oper), ops[i]? = some o → ∀ e ∈ o.after, Region.binds .any e = true → e.on < i

def dflt : DM × Ins := (.plain, ⟨none, .bad, none⟩)

theorem dinsOne_ok (hC : CallOk P call) {ops : Array Oper} {i : Nat} {o : Oper} (ho : ops[i]? = some o) {d : DM × Ins} (hx : compIns P nt ops.toList o = some d.2) (hD : D.Nodup) {s s' : St} (h : dins call N d s = some s')
    (hS : Sim P B0 w0 ρ s.H D w) (hτ : RT ρ nt s.τ a.tmps) (hh : ∀ j, holeOf d = some j → ρ (N + j) = none) (hN : N + nh ≤ s.H.length) {K : Act → World → Prop} {Q : Exit → Act → World → Prop} {ro : Option Nat} {n : Nat}
    (hK : ∀ (ρ' : Rho) (a' : Act) (w' : World), (∀ k, k < N + nh → (∀ j, holeOf d = some j → k ≠ N + j) → ρ' k = ρ k) → Sim P B0 w0 ρ' s'.H D w' → RT ρ' nt s'.τ a'.tmps → a'.defers = a.defers → K a' w') :
    wpOpIn (FW ro) n P ops Q i K a w := by
  obtain ⟨m, x⟩ := d
  cases m with
  | plain =>
    exact ins_ok hC ho hx hD (h : ins call x s = some s') hS hτ fun ρ' a' w' h1 => hK ρ' a' w' fun k hk _ => h1 k (by omega)
  | pcall hide =>
    exact ins_ok (hC.pcall (hide.map (N + ·))) ho hx hD (h : ins _ x s = some s') hS hτ fun ρ' a' w' h1 => hK ρ' a' w' fun k hk _ => h1 k (by omega)
  | hole j =>
    exact hole_ok ho hx h hS hτ (hh j rfl) fun ρ' a' w' h1 => hK ρ' a' w' fun k hk h2 => h1 k (h2 j rfl)

theorem filter_ne_mid {l pre post : List Nat} {i : Nat} (h : l = pre ++ i :: post) (hp : l.Pairwise (· < ·)) : l.filter (fun k => k != i) = pre ++ post := by
  subst h
  rw [List.pairwise_append] at hp
  obtain ⟨_, h2, h3⟩ := hp
  rw [List.pairwise_cons] at h2
  rw [List.filter_append, List.filter_cons]
  simp only [bne_self_eq_false, Bool.false_eq_true, if_false]
  congr 1
  · refine List.filter_eq_self.2 fun x hx => ?_
    have := h3 x hx i (by simp)
    simp; omega
  · refine List.filter_eq_self.2 fun x hx => ?_
    have := h2.1 x hx
    simp; omega

theorem any_ok (hC : CallOk P call) {ops : Array Oper} {dl : List (DM × Ins)} {cs : List Chk} (hd : DrawOk ops dl cs nt P) (hnh : holes dl ≤ nh) (hD : D.Nodup) {sf : St} (hck : ∀ c ∈ cs, Chk.ok N nh sf.τ c = true)
    {Q : Exit → Act → World → Prop} {ro : Option Nat} {n : Nat} : ∀ (fuel : Nat) (listed : Array Bool) (rem : List Nat) (s : St) (ρ : Rho) (a : Act) (w : World),
    listed.size = ops.size → rem = (List.range ops.size).filter (fun i => !(listed.getD i true)) → rem.length = fuel →
    (∀ i, listed.getD i false = true → ∀ j, ((befs ops.toList).getD i 0).testBit j = true → listed.getD j false = true) →
    dinsL call N (rem.map (dl.getD · dflt)) s = some sf → Sim P B0 w0 ρ s.H D w → RT ρ nt s.τ a.tmps → (∀ i ∈ rem, ∀ j, holeOf (dl.getD i dflt) = some j → ρ (N + j) = none) → N + nh ≤ s.H.length →
    (∀ (ρ' : Rho) (a' : Act) (w' : World), Agree N ρ ρ' → Sim P B0 w0 ρ' sf.H D w' → RT ρ' nt sf.τ a'.tmps → a'.defers = a.defers → Q .normal a' w') →
    wpAnyIn (FW ro) n P .any ops Q fuel listed a w := by
  have hgd : ∀ (listed : Array Bool) (i : Nat), listed.size = ops.size → i < ops.size → listed.getD i true = listed.getD i false := fun listed i hs hi => by
    simp [Array.getD, hs, hi]
  have hready : ∀ (listed : Array Bool) (i : Nat), listed.size = ops.size → i ∈ Region.ready .any ops listed → i < ops.size ∧ listed.getD i true = false := fun listed i hs hi => by
    obtain ⟨h1, o, ho, _⟩ := mem_ready.1 hi
    exact ⟨(Array.getElem?_eq_some_iff.1 ho).1, h1⟩
  intro fuel
  induction fuel with
  | zero =>
    intro listed rem s ρ a w hsz hrem hlen hcl h hS hτ hh hN hK
    have : rem = [] := List.eq_nil_of_length_eq_zero hlen
    subst this
    cases h
    refine ⟨?_, hK ρ a w (Agree.refl _ _) hS hτ rfl⟩
    rw [List.eq_nil_iff_forall_not_mem]
    intro i hi
    obtain ⟨h1, h2⟩ := hready listed i hsz hi
    have : i ∈ (List.range ops.size).filter (fun i => !(listed.getD i true)) := by
      rw [List.mem_filter]; exact ⟨by simpa using h1, by rw [h2]; rfl⟩
    rw [← hrem] at this
    cases this
  | succ fuel ih =>
    intro listed rem s ρ a w hsz hrem hlen hcl h hS hτ hh hN hK
    have hsorted : rem.Pairwise (· < ·) := by rw [hrem]; exact List.Pairwise.filter _ List.pairwise_lt_range
    have hmem : ∀ i, i ∈ rem ↔ i < ops.size ∧ listed.getD i false = false := fun i => by
      rw [hrem, List.mem_filter, List.mem_range]
      constructor
      · rintro ⟨h1, h2⟩; exact ⟨h1, by rw [← hgd listed i hsz h1]; simpa using h2⟩
      · rintro ⟨h1, h2⟩; exact ⟨h1, by rw [hgd listed i hsz h1, h2]; rfl⟩
    have hget : ∀ i, i < ops.size → ∃ o d, ops[i]? = some o ∧ dl[i]? = some d ∧ dl.getD i dflt = d ∧ compIns P nt ops.toList o = some d.2 := fun i hi => by
      have ho : ops[i]? = some ops[i] := by simp [hi]
      obtain ⟨d, h1, h2⟩ := hd.ins i _ ho
      exact ⟨_, d, ho, h1, by rw [List.getD_eq_getElem?_getD, h1]; rfl, h2⟩
    refine ⟨fun hnil => ?_, fun i hi => ?_⟩
    · -- the first that stands still is ready
      exfalso
      cases hrc : rem with
      | nil => rw [hrc] at hlen; cases hlen
      | cons i0 r =>
        have hi0 : i0 ∈ rem := by rw [hrc]; simp
        obtain ⟨h1, h2⟩ := (hmem i0).1 hi0
        obtain ⟨o, d, ho, _⟩ := hget i0 h1
        have : i0 ∈ Region.ready .any ops listed := mem_ready.2 ⟨by rw [hgd listed i0 hsz h1]; exact h2, o, ho, fun e he hb => by
          have hlt := hd.back i0 o ho e he hb
          cases hle : listed.getD e.on false with
          | true => rfl
          | false =>
            have hm : e.on ∈ rem := (hmem e.on).2 ⟨by omega, hle⟩
            rw [hrc] at hm hsorted
            rcases List.mem_cons.1 hm with h | h
            · omega
            · have := (List.pairwise_cons.1 hsorted).1 _ h; omega⟩
        rw [hnil] at this; cases this
    · obtain ⟨hilt, hiun⟩ := hready listed i hsz hi
      have hir : i ∈ rem := (hmem i).2 ⟨hilt, by rw [← hgd listed i hsz hilt]; exact hiun⟩
      obtain ⟨pre, post, hsplit⟩ := List.append_of_mem hir
      obtain ⟨o, d, ho, hdi, hdd, hci⟩ := hget i hilt
      obtain ⟨_, o', ho', hall⟩ := mem_ready.1 hi
      rw [ho] at ho'; cases ho'
      have hs2 := hsorted
      rw [hsplit, List.pairwise_append] at hs2
      obtain ⟨_, hs3, hs4⟩ := hs2
      have hlisted : ∀ x, ((befs ops.toList).getD i 0).testBit x = true → listed.getD x false = true := fun x hx => by
        obtain ⟨e, he, hb, h⟩ := befs_spec (by simpa using ho) hx
        have hle := hall e (by simpa using he) hb
        rcases h with rfl | h
        · exact hle
        · exact hcl _ hle x h
      have hmap : rem.map (dl.getD · dflt) = pre.map (dl.getD · dflt) ++ d :: post.map (dl.getD · dflt) := by rw [hsplit]; simp [← hdd]
      have hpw : (rem.map (dl.getD · dflt)).Pairwise NW := by
        rw [List.pairwise_map]
        refine hsorted.imp_of_mem fun {x y} hx hy hlt => ?_
        obtain ⟨_, dx, _, h1, h2, _⟩ := hget x ((hmem x).1 hx).1
        obtain ⟨_, dy, _, h3, h4, _⟩ := hget y ((hmem y).1 hy).1
        rw [h2, h4]
        exact (hd.pair x y dx dy hlt h1 h3).1
      have hself : ∀ x ∈ rem.map (dl.getD · dflt), NW x x := fun x hx => by
        obtain ⟨k, hk, rfl⟩ := List.mem_map.1 hx
        obtain ⟨_, dx, _, h1, h2, _⟩ := hget k ((hmem k).1 hk).1
        rw [h2]; exact hd.self dx (List.mem_of_getElem? h1)
      rw [hmap] at h hpw hself
      have hdl : d ∈ dl := List.mem_of_getElem? hdi
      obtain ⟨s', hs', hrest⟩ := bubble (nh := nh) hC.grow (fun j hj => Nat.lt_of_lt_of_le (holes_lt hdl (kd_hole hj)) hnh) _ s (fun x hx => by
        obtain ⟨k, hk, rfl⟩ := List.mem_map.1 hx
        have hkr : k ∈ rem := by rw [hsplit]; exact List.mem_append_left _ hk
        obtain ⟨hk1, hk2⟩ := (hmem k).1 hkr
        obtain ⟨_, dx, _, h1, h2, _⟩ := hget k hk1
        have hlt : k < i := hs4 k hk i (by simp)
        rw [h2]
        rcases (hd.pair k i dx d hlt h1 hdi).2.2 with hb | ⟨ha, c, hc, hcc⟩
        · have := hlisted k hb; rw [hk2] at this; cases this
        · exact ⟨ha, c, hc, fun q hq => hck q (hcc q hq)⟩) hpw hself hN h
      refine dinsOne_ok hC ho hci hD hs' hS hτ (fun j hj => hh i hir j (by rw [hdd]; exact hj)) hN fun ρ' a' w' h1 h2 h3 h4 => ?_
      have hsz' : (listed.setIfInBounds i true).size = ops.size := by simpa using hsz
      have hil : i < listed.size := by omega
      have hgetD : ∀ k (b : Bool), (listed.setIfInBounds i true).getD k b = if k = i then true else listed.getD k b := fun k b => by
        by_cases e : k = i
        · subst e; simp [Array.getD, hil]
        · rw [if_neg e]
          simp only [Array.getD_eq_getD_getElem?, Array.getElem?_setIfInBounds]
          rw [if_neg (by omega)]
      have hrem' : pre ++ post = (List.range ops.size).filter (fun k => !((listed.setIfInBounds i true).getD k true)) := by
        rw [← filter_ne_mid hsplit hsorted, hrem, List.filter_filter]
        refine List.filter_congr fun k hk => ?_
        rw [hgetD]
        by_cases e : k = i
        · subst e; simp
        · simp [e]
      refine ih (listed.setIfInBounds i true) (pre ++ post) s' ρ' a' w' hsz' hrem' ?_ ?_ ?_ h2 h3 ?_ ?_ ?_
      · rw [hsplit] at hlen; simp at hlen ⊢; omega
      · intro k hk x hx
        rw [hgetD] at hk ⊢
        by_cases e : k = i
        · subst e
          have := hlisted x hx
          split
          · rfl
          · exact this
        · rw [if_neg e] at hk
          have := hcl k hk x hx
          split
          · rfl
          · exact this
      · rw [List.map_append]; exact hrest
      · intro k hk j hj
        have hkr : k ∈ rem := by
          rw [hsplit]
          rcases List.mem_append.1 hk with h | h
          · exact List.mem_append_left _ h
          · exact List.mem_append_right _ (List.mem_cons_of_mem _ h)
        have hki : k ≠ i := by
          rcases List.mem_append.1 hk with h | h
          · have := hs4 k h i (by simp); omega
          · have := (List.pairwise_cons.1 hs3).1 k h; omega
        obtain ⟨hk1, _⟩ := (hmem k).1 hkr
        obtain ⟨_, dx, _, e1, e2, _⟩ := hget k hk1
        have hjl : j < nh := Nat.lt_of_lt_of_le (holes_lt (List.mem_of_getElem? e1) (by rw [← e2]; exact hj)) hnh
        rw [h1 (N + j) (by omega) fun j' hj' e => ?_]
        · exact hh k hkr j hj
        · have : j = j' := by omega
          subst this
          rw [e2] at hj
          rcases Nat.lt_or_gt_of_ne hki with hlt | hgt
          · exact (hd.pair k i dx d hlt e1 hdi).2.1 j hj hj'
          · exact (hd.pair i k d dx hgt hdi e1).2.1 j hj' hj
      · exact Nat.le_trans hN (dins_grow hC.grow hs').1
      · intro ρ2 a2 w2 k1 k2 k3 k4
        refine hK ρ2 a2 w2 (fun k hk => ?_) k2 k3 (k4.trans h4)
        rw [k1 k hk]
        exact h1 k (by omega) fun j _ e => by omega

theorem Sim.dead (hS : Sim P B0 w0 ρ H D w) (n : Nat) : Sim P B0 w0 ρ (H ++ List.replicate n .dead) D w := by
  have hget : ∀ (k : Nat) (b : Blk), (H ++ List.replicate n Blk.dead)[k]? = some b → b.live = true → H[k]? = some b := fun k b hb hl => by
    by_cases hk : k < H.length
    · rwa [List.getElem?_append_left hk] at hb
    · rw [List.getElem?_append_right (by omega), List.getElem?_replicate] at hb
      split at hb
      · cases hb; simp [Blk.live] at hl
      · cases hb
  exact ⟨fun k hk => hS.out k (by simp at hk; omega), hS.base, hS.low, fun k b hb hl => hS.blk k b (hget k b hb hl) hl,
    fun k k' b b' L L' hkk hb hbo hb' hbl hL hL' => hS.sep k k' b b' L L' hkk (hget k b hb (Blk.own_live hbo)) hbo (hget k' b' hb' hbl) hbl hL hL', hS.dfr⟩

theorem compDraw_ok {ops : Array Oper} {m : MC} (h : compDraw P nt ops.toList = some m) : ∃ dl cs, m = .dreg (holes dl) dl cs ∧ DrawOk ops dl cs nt P := by
  unfold compDraw at h
  cases hm : ops.toList.mapM (compIns P nt ops.toList) with
  | none => rw [hm] at h; cases h
  | some is =>
    rw [hm] at h
    simp only at h
    split at h
    case isFalse => cases h
    rename_i hback
    simp only [Option.map_eq_some_iff] at h
    obtain ⟨cs, hcs, rfl⟩ := h
    obtain ⟨m1, m2⟩ := mapM_get hm
    obtain ⟨s1, s2⟩ := allOk_spec hcs
    refine ⟨modes (befs ops.toList) is, cs, rfl, ?_, fun i o ho => ?_, fun d hdm => ?_, fun i j x y hij hx hy => ?_, fun i o ho e he hb => ?_⟩
    · rw [modes_length, m1]; simp
    · obtain ⟨x, hx, hc⟩ := m2 i o (by simpa using ho)
      have hlt : i < (modes (befs ops.toList) is).length := by rw [modes_length]; exact (List.getElem?_eq_some_iff.1 hx).1
      refine ⟨_, List.getElem?_eq_getElem hlt, ?_⟩
      have := modes_get (List.getElem?_eq_getElem hlt)
      rw [hx] at this
      rw [hc]; exact this
    · obtain ⟨i, hi, rfl⟩ := List.mem_iff_getElem.1 hdm
      have := s1 ((modes (befs ops.toList) is)[i], i) (List.mem_zipIdx_iff_getElem?.2 (by simp [hi]))
      exact nw_of this
    · have hxi := List.getElem?_eq_some_iff.1 hx
      have hyi := List.getElem?_eq_some_iff.1 hy
      rw [List.pairwise_iff_getElem] at s2
      obtain ⟨c, hc, hcc⟩ := s2 i j (by simpa using hxi.1) (by simpa using hyi.1) hij
      simp only [List.getElem_zipIdx, Nat.zero_add, hxi.2, hyi.2] at hc
      obtain ⟨p1, p2, p3⟩ := pairOk_spec hc
      exact ⟨p1, p2, p3.imp id fun h => ⟨h.1, c, h.2, hcc⟩⟩
    · have := List.all_eq_true.1 hback (o, i) (List.mem_zipIdx_iff_getElem?.2 (by simpa using ho))
      have := List.all_eq_true.1 this e (by simpa using he)
      simp only [hb, Bool.not_true, Bool.false_or, decide_eq_true_eq] at this
      exact this

theorem dreg_ok (hm : P.follows .mixedOrders = true) (hC : CallOk P call) {id : Nat} {ops : Array Oper} {m : MC} (hc : compDraw P nt ops.toList = some m) (hD : D.Nodup) {s s' : St} {fuel : Nat} {e : Ex} (h : exec call fuel m s = some (e, s'))
    (hS : Sim P B0 w0 ρ s.H D w) (hτ : RT ρ nt s.τ a.tmps) {Q : Exit → Act → World → Prop} {ro : Option Nat} {n : Nat} (hK : e = .normal → Kont P B0 w0 D nt ρ s.H.length a s' (Q .normal)) : (Code.region id ops true).wpIn (FW ro) n P Q a w := by
  obtain ⟨dl, cs, rfl, hd⟩ := compDraw_ok hc
  simp only [exec] at h
  cases hr : dinsL call s.H.length dl ⟨s.τ, s.H ++ List.replicate (holes dl) .dead⟩ with
  | none => rw [hr] at h; simp [afterDraw] at h
  | some sf =>
    rw [hr] at h
    simp only [afterDraw] at h
    split at h
    case isFalse => cases h
    rename_i hck
    cases h
    refine wpIn_region_any hm ?_
    have hS1 : Sim P B0 w0 ρ (s.H ++ List.replicate (holes dl) .dead) D { w with drawn := w.drawn + 1 } := (hS.dead _).heapEq rfl rfl rfl rfl
    have hdl : (List.range ops.size).map (dl.getD · dflt) = dl := by
      refine List.ext_getElem? fun i => ?_
      by_cases hi : i < ops.size
      · rw [List.getElem?_map, List.getElem?_range hi]
        simp [List.getD_eq_getElem?_getD, List.getElem?_eq_getElem (by rw [hd.len]; exact hi : i < dl.length)]
      · rw [List.getElem?_eq_none (by simp; omega), List.getElem?_eq_none (by rw [hd.len]; omega)]
    refine any_ok (N := s.H.length) (nh := holes dl) hC hd (Nat.le_refl _) hD (sf := s') (fun c hcm => List.all_eq_true.1 hck c hcm) ops.size (Array.replicate ops.size false) (List.range ops.size) ⟨s.τ, s.H ++ List.replicate (holes dl) .dead⟩ ρ a _ (by simp) ?_ (by simp) ?_ (by rw [hdl]; exact hr) hS1 hτ (fun i _ j _ => hS.out _ (by omega)) (by simp) (fun ρ' a' w' h1 h2 h3 h4 => hK rfl ρ' a' w' h1 h2 h3 h4)
    · symm
      refine List.filter_eq_self.2 fun i hi => ?_
      have : i < ops.size := by simpa using hi
      simp [Array.getD, this]
    · intro i hi
      exfalso
      simp only [Array.getD_eq_getD_getElem?, Array.getElem?_replicate] at hi
      split at hi <;> simp at hi
end Go.Ar
