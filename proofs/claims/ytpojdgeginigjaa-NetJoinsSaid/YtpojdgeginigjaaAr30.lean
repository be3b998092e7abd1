/- Heaps that grow behind: simp's rules; functions that lay only what is not looked at any more. -/
import Derived.Test.YtpojdgeginigjaaAr29
set_option linter.unusedSimpArgs false
set_option linter.unusedVariables false
namespace Go.Ar
variable {E : Env}

theorem rd_app0 {H G : Heap} {o : Nat} : rd (H ++ G) H.length o = rd G 0 o := by
  simp only [rd]; rw [List.getElem?_append_right (Nat.le_refl _)]; simp
theorem rd_appn {H G : Heap} {i o : Nat} : rd (H ++ G) (H.length + i) o = rd G i o := by
  simp only [rd]; rw [List.getElem?_append_right (Nat.le_add_right _ _)]; simp
theorem rdn_app0 {H G : Heap} {o n : Nat} : rdn (H ++ G) H.length o n = rdn G 0 o n := by
  simp only [rdn]; rw [List.getElem?_append_right (Nat.le_refl _)]; simp
theorem rdn_appn {H G : Heap} {i o n : Nat} : rdn (H ++ G) (H.length + i) o n = rdn G i o n := by
  simp only [rdn]; rw [List.getElem?_append_right (Nat.le_add_right _ _)]; simp
theorem rd_c0 {cs : List V} {m : Mode} {G : Heap} {o : Nat} : rd (.cells cs m :: G) 0 o = cs[o]? := rfl
theorem rd_cs {b : Blk} {G : Heap} {i o : Nat} : rd (b :: G) (i + 1) o = rd G i o := rfl
theorem rdn_c0 {cs : List V} {m : Mode} {G : Heap} {o n : Nat} : rdn (.cells cs m :: G) 0 o n = if o + n ≤ cs.length then some ((cs.drop o).take n) else none := rfl
theorem rdn_cs {b : Blk} {G : Heap} {i o n : Nat} : rdn (b :: G) (i + 1) o n = rdn G i o n := rfl
theorem wr_appn {H G : Heap} {i o : Nat} {vs : List V} : wr (H ++ G) (H.length + i) o vs = (wr G i o vs).map fun G' => H ++ G' := by
  simp only [wr]
  rw [List.getElem?_append_right (Nat.le_add_right _ _)]
  simp only [Nat.add_sub_cancel_left]
  cases hg : G[i]? with
  | none => rfl
  | some b =>
    cases b with
    | cells cs m =>
      simp only
      split
      · rfl
      · split
        · split
          · simp [List.set_append_right]
          · rfl
        · rfl
    | _ => rfl
theorem wr_app0 {H G : Heap} {o : Nat} {vs : List V} : wr (H ++ G) H.length o vs = (wr G 0 o vs).map fun G' => H ++ G' := wr_appn (i := 0)
theorem wr_c0 {cs : List V} {m : Mode} {G : Heap} {o : Nat} {vs : List V} : wr (.cells cs m :: G) 0 o vs = if m.wr = false then none else if o + vs.length ≤ cs.length then (if vs.all V.scalar then some (.cells (wrc cs o vs) m :: G) else none) else none := rfl
theorem wr_cs {b : Blk} {G : Heap} {i o : Nat} {vs : List V} : wr (b :: G) (i + 1) o vs = (wr G i o vs).map fun G' => b :: G' := by
  simp only [wr, List.getElem?_cons_succ]
  cases hg : G[i]? with
  | none => rfl
  | some c =>
    cases c with
    | cells cs m =>
      simp only
      split
      · rfl
      · split
        · split
          · rfl
          · rfl
        · rfl
    | _ => rfl
theorem ex_wr : Mode.wr .ex = true := rfl
theorem gr_wr (n : Nat) : Mode.wr (.gr n) = true := rfl
theorem sc_bool (b : Bool) : (V.bool b).scalar = true := rfl
theorem sc_int (k : IntKind) (n : Int) : (V.int k n).scalar = true := rfl
theorem sc_nilp : V.nilp.scalar = true := rfl
theorem sc_ptr (k o : Nat) : (V.ptr k o).scalar = true := rfl
theorem sc_nils : V.nils.scalar = true := rfl
theorem sc_es : V.es.scalar = true := rfl
theorem sc_sl (k o n c : Nat) : (V.sl k o n c).scalar = true := rfl
theorem sc_nilm : V.nilm.scalar = true := rfl
theorem sc_map (k : Nat) : (V.map k).scalar = true := rfl
theorem sc_nilf : V.nilf.scalar = true := rfl
theorem sc_fn (f : Nat) (a b : List V) : (V.fn f a b).scalar = true := rfl
theorem wrc_nil (cs : List V) (o : Nat) : wrc cs o ([] : List V) = cs := rfl
theorem wrc_cons (cs : List V) (o : Nat) (v : V) (vs : List V) : wrc cs o (v :: vs) = wrc (cs.set o v) (o + 1) vs := rfl
attribute [simp] rd_app0 rd_appn rdn_app0 rdn_appn rd_c0 rd_cs rdn_c0 rdn_cs wr_appn wr_app0 wr_c0 wr_cs ex_wr gr_wr sc_bool sc_int sc_nilp sc_ptr sc_nils sc_es sc_sl sc_nilm sc_map sc_nilf sc_fn wrc_nil wrc_cons

/-- A function that answers v, and lays behind only what nobody looks at. -/
def Pc (E : Env) (g : Nat) (args : List V) (H : Heap) (v : V) : Prop := ∃ f : Heap → Heap, ∀ G, callL E (.f g) args (H ++ G) = some (v, H ++ (G ++ f G))
theorem Pc.mk {g : Nat} {args : List V} {H : Heap} {v : V} (h : ∀ G, ∃ v' H', callL E (.f g) args (H ++ G) = some (v', H') ∧ v' = v ∧ ∃ G', H' = H ++ G ++ G') : Pc E g args H v := by
  have h' : ∀ G, ∃ G', callL E (.f g) args (H ++ G) = some (v, H ++ (G ++ G')) := fun G => by
    obtain ⟨v', H', h1, rfl, G', rfl⟩ := h G
    exact ⟨G', by rw [h1, List.append_assoc]⟩
  exact ⟨fun G => Classical.choose (h' G), fun G => Classical.choose_spec (h' G)⟩
theorem Pc.app {g : Nat} {args : List V} {H : Heap} {v : V} (h : Pc E g args H v) (G0 : Heap) : Pc E g args (H ++ G0) v := by
  obtain ⟨f, hf⟩ := h
  exact ⟨fun G => f (G0 ++ G), fun G => by rw [List.append_assoc, hf]; simp⟩
theorem Pc.run {g : Nat} {args : List V} {H : Heap} {v : V} (h : Pc E g args H v) : ∃ G', callL E (.f g) args H = some (v, H ++ G') := by
  obtain ⟨f, hf⟩ := h
  have := hf []
  simp only [List.append_nil, List.nil_append] at this
  exact ⟨_, this⟩

theorem Rw.app {H : Heap} {sz n : Nat} {x : V} {cs : List V} (h : Rw H sz x n cs) (G : Heap) : Rw (H ++ G) sz x n cs := h.frame fun k hk => List.getElem?_append_left (h.lt k hk)
theorem IL.app {q : IntKind} {H : Heap} {x : V} {zs : List Int} (h : IL q H x zs) (G : Heap) : IL q (H ++ G) x zs := Rw.app h G
theorem BL.app {H : Heap} {x : V} {zs : List Bool} (h : BL H x zs) (G : Heap) : BL (H ++ G) x zs := Rw.app h G
theorem SlG.app {H : Heap} {sz : Nat} {x : V} (h : SlG H sz x) (G : Heap) : SlG (H ++ G) sz x := h.frame fun k hk => List.getElem?_append_left (h.lt k hk)
theorem Hp.app (H G : Heap) : Hp H (H ++ G) [] := ⟨by simp, fun k hk => List.getElem?_append_left hk, fun p hp => by simp at hp, List.nodup_nil⟩
/-- What lies over a heap is that heap, and more. -/
theorem Hp.eq {H0 H : Heap} {L : List (Nat × Blk)} (h : Hp H0 H L) : ∃ G, H = H0 ++ G := by
  refine ⟨H.drop H0.length, List.ext_getElem? fun k => ?_⟩
  by_cases hk : k < H0.length
  · rw [List.getElem?_append_left hk]; exact h.old k hk
  · rw [List.getElem?_append_right (by omega), List.getElem?_drop]
    congr 1; omega

/-! ### Arcs, nets -/
structure Arc where
  src : Int
  dst : Int
  cap : Int
  deriving DecidableEq
def Arc.cells (a : Arc) : List V := [.int .i64 a.src, .int .i64 a.dst, .int .i64 a.cap]
def AL (H : Heap) (x : V) (l : List Arc) : Prop := Rw H 3 x l.length (l.flatMap Arc.cells)
theorem AL.app {H : Heap} {x : V} {l : List Arc} (h : AL H x l) (G : Heap) : AL (H ++ G) x l := Rw.app h G
theorem arcs_cell (l : List Arc) : ∀ (i j : Nat) (a : Arc), l[i]? = some a → j < 3 → (l.flatMap Arc.cells)[i * 3 + j]? = a.cells[j]? := by
  induction l with
  | nil => intro i j a h; simp at h
  | cons b l ih =>
    intro i j a h hj
    simp only [List.flatMap_cons]
    cases i with
    | zero =>
      simp at h; subst h
      rw [List.getElem?_append_left (by simp [Arc.cells]; omega)]
      simp
    | succ i =>
      simp at h
      rw [List.getElem?_append_right (by simp [Arc.cells]; omega)]
      have : (i + 1) * 3 + j - (Arc.cells b).length = i * 3 + j := by simp [Arc.cells]; omega
      rw [this]; exact ih i j a h hj
theorem AL.at {H : Heap} {x : V} {l : List Arc} (h : AL H x l) {i : Nat} (hi : i < l.length) : ∃ k o c, x = .sl k o l.length c ∧ k < H.length ∧ (∀ G, rdn (H ++ G) k (o + i * 3) 3 = some (l[i].cells)) ∧ rdn H k (o + i * 3) 3 = some (l[i].cells) := by
  obtain ⟨k, o, c, rfl, _⟩ := Rw.at h hi
  have hk := Rw.lt h k rfl
  have base : rdn H k (o + i * 3) 3 = some (l[i].cells) := by
    have h2 := h.cells
    have hsz := h.size
    simp only [cellsOf, rdn] at h2 ⊢
    split at h2
    · rename_i ds m hb
      split at h2
      · rename_i hle
        have hcs := Option.some.inj h2
        rw [if_pos (by omega)]
        congr 1
        refine List.ext_getElem? fun j => ?_
        by_cases hj : j < 3
        · rw [List.getElem?_take, if_pos hj, List.getElem?_drop]
          have h3 := arcs_cell l i j l[i] (List.getElem?_eq_getElem hi) hj
          rw [← h3, ← hcs, List.getElem?_take, if_pos (by omega), List.getElem?_drop]
          congr 1; omega
        · rw [List.getElem?_eq_none (by simp; omega), List.getElem?_eq_none (by simp [Arc.cells]; omega)]
      · cases h2
    · cases h2
  refine ⟨k, o, c, rfl, hk, fun G => ?_, base⟩
  rw [← base]
  simp only [rdn]
  rw [List.getElem?_append_left hk]
end Go.Ar
