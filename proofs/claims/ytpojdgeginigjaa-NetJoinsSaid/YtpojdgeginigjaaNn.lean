/- Join: the walk's tools. -/
import Derived.Test.YtpojdgeginigjaaNm
import Derived.Test.YtpojdgeginigjaaNj
set_option linter.unusedSimpArgs false
set_option linter.unusedVariables false
namespace Go.Proofs.Ytpojdgeginigjaa
open Go Go.Ar
set_option maxRecDepth 100000

/-- The map of ends: entries in the order of what is joined. -/
def keyA (a : Ar.Arc) : V := .agg [.int .i64 a.src, .int .i64 a.dst]
def mapP (j : Nat) : List Ar.Arc → List (V × V)
  | [] => []
  | x :: l => (keyA x, .int .i64 (j : Int)) :: mapP (j + 1) l
theorem mapP_length (j : Nat) (l : List Ar.Arc) : (mapP j l).length = l.length := by
  induction l generalizing j with
  | nil => rfl
  | cons x l ih => simp [mapP, ih]
theorem mapP_snoc (l : List Ar.Arc) (a : Ar.Arc) : ∀ j, mapP j (l ++ [a]) = mapP j l ++ [(keyA a, .int .i64 ((j + l.length : Nat) : Int))] := by
  induction l with
  | nil => intro j; simp [mapP]
  | cons x l ih => intro j; simp only [List.cons_append, mapP, ih]; congr 4; simp; omega
theorem mapP_set (l : List Ar.Arc) : ∀ (i j : Nat) (a' : Ar.Arc) (hi : i < l.length), keyA a' = keyA l[i] → mapP j (l.set i a') = mapP j l := by
  induction l with
  | nil => intro i j a' hi; simp at hi
  | cons x l ih =>
    intro i j a' hi h
    cases i with
    | zero => simp only [List.getElem_cons_zero] at h; simp [mapP, h]
    | succ i =>
      simp only [List.getElem_cons_succ] at h
      simp only [List.set_cons_succ, mapP]
      rw [ih i (j + 1) a' (by simpa using hi) h]
theorem findk_mapP (a : Ar.Arc) : ∀ (l : List Ar.Arc) (j i : Nat), findk (keyA a) (mapP j l) i = some (match l.findIdx? (fun x => ends x a) with | some p => some (i + p, .int .i64 ((j + p : Nat) : Int)) | none => none)
  | [], j, i => rfl
  | x :: l, j, i => by
    have ih := findk_mapP a l (j + 1) (i + 1)
    have hk : keyEq (keyA a) (keyA x) = some (a.src == x.src && a.dst == x.dst) := by simp [keyEq, keyA]
    simp only [mapP, findk, hk]
    rw [List.findIdx?_cons]
    by_cases he : ends x a = true
    · have : (a.src == x.src && a.dst == x.dst) = true := by
        rw [ends_iff] at he
        simp [he.1, he.2]
      rw [this, if_pos he]; simp
    · have : (a.src == x.src && a.dst == x.dst) = false := by
        refine Bool.eq_false_iff.2 fun h => he ?_
        simp at h
        exact ends_iff.2 ⟨h.1.symm, h.2.symm⟩
      rw [this, if_neg he]
      simp only
      rw [ih]
      cases l.findIdx? (fun x => ends x a) with
      | none => rfl
      | some p => simp only [Option.map_some]; congr 3; · omega
                  · congr 2; omega

/-- A row of whole numbers that is owned. -/
def OwnI (H : Heap) (B : Nat) (x : V) (l : List Int) : Prop := (x = .nils ∧ l = []) ∨ ∃ k, x = .sl k 0 l.length l.length ∧ B ≤ k ∧ H[k]? = some (.cells (l.map (.int .i64)) (.gr 1))
theorem OwnI.il {H : Heap} {B : Nat} {x : V} {l : List Int} (h : OwnI H B x l) : IL .i64 H x l := by
  rcases h with ⟨rfl, rfl⟩ | ⟨k, rfl, _, h⟩
  · exact ⟨rfl, rfl⟩
  · exact IL.own h
theorem OwnI.frame {H H' : Heap} {B : Nat} {x : V} {l : List Int} (h : OwnI H B x l) (e : ∀ k, x.blk? = some k → H'[k]? = H[k]?) : OwnI H' B x l := by
  rcases h with ⟨rfl, rfl⟩ | ⟨k, rfl, hb, h⟩
  · exact .inl ⟨rfl, rfl⟩
  · exact .inr ⟨k, rfl, hb, (e k rfl).trans h⟩
theorem pushI {H : Heap} {B : Nat} {x : V} {l : List Int} (h : OwnI H B x l) (hB : B ≤ H.length) (v : Int) (hs : l.length ≤ 2 ^ 20) : ∃ x' H', appendv (H ++ [.cells [.int .i64 v] .ex]) 1 8 x (.sl H.length 0 1 1) = some (x', H') ∧ OwnI H' B x' (l ++ [v]) ∧ H.length ≤ H'.length ∧ (∀ k, k < H.length → x.blk? ≠ some k → H'[k]? = H[k]?) ∧ (∀ k, x'.blk? = some k → H.length ≤ k) := by
  have hc : cellsOf (H ++ [.cells [.int .i64 v] .ex]) 1 (.sl H.length 0 1 1) = some [.int .i64 v] := by simp [cellsOf, rdn]
  have hsc : [V.int .i64 v].all V.scalar = true := rfl
  rcases h with ⟨rfl, rfl⟩ | ⟨k, rfl, hb, hk⟩
  · refine ⟨.sl (H.length + 1) 0 1 1, H ++ [.cells [.int .i64 v] .ex] ++ [.cells [.int .i64 v] (.gr 1)], ?_, .inr ⟨H.length + 1, rfl, by omega, by simp⟩, by simp, fun k hk _ => by simp [List.getElem?_append_left, hk], fun k hk => by simp [V.blk?] at hk; omega⟩
    unfold appendv
    simp only [lenOf, hc, hsc]
    rw [if_neg (by simp), if_neg (by omega), if_pos (by unfold lim; omega)]
    simp
  · have hkl := (List.getElem?_eq_some_iff.1 hk).1
    have hk' : (H ++ [Blk.cells [.int .i64 v] .ex])[k]? = some (.cells (l.map (.int .i64)) (.gr 1)) := by rw [List.getElem?_append_left hkl]; exact hk
    refine ⟨.sl (H.length + 1) 0 (l.length + 1) (l.length + 1), (H ++ [Blk.cells [.int .i64 v] .ex]).set k .dead ++ [.cells ((l ++ [v]).map (.int .i64)) (.gr 1)], ?_, .inr ⟨H.length + 1, by simp, by omega, ?_⟩, by simp; omega, fun j hj hne => ?_, fun j hj => by simp [V.blk?] at hj; omega⟩
    · unfold appendv
      simp only [lenOf, hc, hsc, hk']
      rw [if_neg (by simp), if_pos (by simp), if_neg (by omega), if_pos (by unfold lim; omega), if_pos ⟨trivial, trivial⟩, List.take_of_length_le (by simp)]
      simp
    · rw [List.getElem?_append_right (by simp)]; simp
    · rw [List.getElem?_append_left (by simp; omega), List.getElem?_set_ne (fun e => hne (by rw [e]; rfl)), List.getElem?_append_left hj]
end Go.Proofs.Ytpojdgeginigjaa
