/- Regions that draw their order, in pieces; calls with nothing to be written, of functions that lay only what nobody looks at. -/
import Derived.Test.YtpojdgeginigjaaAr30
set_option linter.unusedSimpArgs false
set_option linter.unusedVariables false
namespace Go.Ar
variable {E : Env}

def DW (call : CallF) (N : Nat) (ops : List (DM × Ins)) (s : St) (K : St → Prop) : Prop := ∃ s', dinsL call N ops s = some s' ∧ K s'
theorem wa_dw {nh : Nat} {ops : List (DM × Ins)} {chk : List Chk} {b : MC} {s : St} {Q : Ex → St → Prop}
    (h : DW (callL E) s.H.length ops ⟨s.τ, s.H ++ List.replicate nh .dead⟩ fun s' => chk.all (Chk.ok s.H.length nh s'.τ) = true ∧ WP E b s' Q) : WP E (.seq (.dreg nh ops chk) b) s Q := by
  obtain ⟨s', h1, h2, h3⟩ := h
  exact wa_seq (wa_dreg h1 h2 h3)
theorem dinsL_append {call : CallF} {N : Nat} : ∀ (a b : List (DM × Ins)) (s : St), dinsL call N (a ++ b) s = (dinsL call N a s).bind (dinsL call N b)
  | [], b, s => rfl
  | x :: a, b, s => by
    simp only [List.cons_append, dinsL]
    cases dins call N x s with
    | none => rfl
    | some s1 => exact dinsL_append a b s1
theorem DW.cut {call : CallF} {N : Nat} {ops : List (DM × Ins)} {s : St} {K : St → Prop} (n : Nat) (h : ∃ s1, dinsL call N (ops.take n) s = some s1 ∧ DW call N (ops.drop n) s1 K) : DW call N ops s K := by
  obtain ⟨s1, h1, s2, h2, h3⟩ := h
  refine ⟨s2, ?_, h3⟩
  have := dinsL_append (call := call) (N := N) (ops.take n) (ops.drop n) s
  rw [List.take_append_drop] at this
  rw [this, h1]; exact h2
theorem DW.cutP {call : CallF} {N : Nat} {ops : List (DM × Ins)} {s : St} {K : St → Prop} (n : Nat) (P : St → Prop) (h1 : ∃ s1, dinsL call N (ops.take n) s = some s1 ∧ P s1) (h2 : ∀ s1, P s1 → DW call N (ops.drop n) s1 K) : DW call N ops s K := by
  obtain ⟨s1, h3, h4⟩ := h1
  exact DW.cut n ⟨s1, h3, h2 s1 h4⟩
theorem DW.rg {call : CallF} {N : Nat} {ops : List (DM × Ins)} {τ : Nat → V} {H : Heap} {K : St → Prop} (L : List (Nat × V)) (h : Rg τ L) (k : ∀ τ', Rg τ' L → DW call N ops ⟨τ', H⟩ K) : DW call N ops ⟨τ, H⟩ K := k τ h

theorem pcall_run {call : CallF} {hide : List Nat} {t : Tgt} {args : List V} {H G : Heap} {v : V} (h : call t args (prot hide H) = some (v, prot hide H ++ G)) : pcall call hide t args H = some (v, H ++ G) := by
  unfold pcall
  rw [h]
  simp [length_prot]
theorem prot_append0 (A B : Heap) : prot [] (A ++ B) = prot [] A ++ prot [] B := by
  refine List.ext_getElem? fun k => ?_
  rw [getElem?_prot]
  by_cases hk : k < A.length
  · rw [List.getElem?_append_left hk, List.getElem?_append_left (by rw [length_prot]; exact hk), getElem?_prot]
  · rw [List.getElem?_append_right (by omega), List.getElem?_append_right (by rw [length_prot]; omega), getElem?_prot, length_prot]
    simp
theorem Pc.pc0 {g : Nat} {args : List V} {H : Heap} {v : V} (h : Pc E g args (prot [] H) v) : ∃ f : Heap → Heap, ∀ G, pcall (callL E) [] (.f g) args (H ++ G) = some (v, H ++ (G ++ f G)) := by
  obtain ⟨f, hf⟩ := h
  refine ⟨fun G => f (prot [] G), fun G => ?_⟩
  rw [← List.append_assoc]
  refine pcall_run ?_
  rw [prot_append0, hf, List.append_assoc]
theorem AL.prot {hide : List Nat} {H : Heap} {x : V} {l : List Arc} (h : AL H x l) (hk : ∀ k, x.blk? = some k → k ∉ hide) : AL (Ar.prot hide H) x l := Rw.prot h hk
end Go.Ar
