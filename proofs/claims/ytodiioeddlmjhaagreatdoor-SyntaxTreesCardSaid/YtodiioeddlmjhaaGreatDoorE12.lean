import Derived.Test.YtodiioeddlmjhaaGreatDoorE11
import Derived.Test.YtodiioeddlmjhaaGreatDoorE10
set_option linter.unusedVariables false
set_option linter.unusedSimpArgs false
namespace Go.Ev
open Go.RowKit
def levE (k : Int) (s : List UInt8) : Int :=
 if k = 4 ∨ k = 6 ∨ k = 7 ∨ k = 8 ∨ k = 17 then 0
 else if k = 9 then (if s = [42] then 3 else if s = [43] ∨ s = [45] then 2 else 1)
 else if k = 5 ∨ k = 12 ∨ k = 13 ∨ k = 16 ∨ k = 18 ∨ k = 19 then 4
 else 5
abbrev Pw := Int × List UInt8
def Pw.at (p : Pw) (least : Int) : List UInt8 := if p.1 ≥ least then p.2 else [40] ++ p.2 ++ [41]
def brW (l : List (List UInt8)) : List UInt8 := if l.length = 0 then [123, 32, 125] else [123, 32] ++ joinW [59, 32] l ++ [32, 125]
def armW (op : List UInt8) (names : List (List UInt8)) (body : List UInt8) : List UInt8 := op ++ names.flatMap (fun s => [32] ++ s) ++ [32, 45, 62, 32] ++ body
def nmW (l : List (List UInt8)) (i : Nat) : List UInt8 := l.getD i []
def ptW (l : List Pw) (i : Nat) : Pw := l.getD i (5, [])
def nodeW (k n : Int) (s t : List UInt8) (nm : List (List UInt8)) (ps : List Pw) (as : List (List UInt8)) : List UInt8 :=
 if k = 0 then s
 else if k = 1 then (if n < 0 then [40] ++ digI n ++ [41] else digI n)
 else if k = 2 then (if n = 1 then [116, 114, 117, 101] else [102, 97, 108, 115, 101])
 else if k = 3 then [40, 41]
 else if k = 4 then [102, 117, 110, 32] ++ nmW nm 0 ++ [32, 45, 62, 32] ++ (ptW ps 0).2
 else if k = 5 then (ptW ps 0).at 4 ++ [32] ++ (ptW ps 1).at 5
 else if k = 6 then [108, 101, 116, 32] ++ joinW [32] nm ++ [32, 61, 32] ++ (ptW ps 0).2 ++ [32, 105, 110, 32] ++ (ptW ps 1).2
 else if k = 7 then [114, 101, 99, 32] ++ joinW [32] nm ++ [32, 61, 32] ++ (ptW ps 0).2 ++ [32, 105, 110, 32] ++ (ptW ps 1).2
 else if k = 8 then [105, 102, 32] ++ (ptW ps 0).2 ++ [32, 116, 104, 101, 110, 32] ++ (ptW ps 1).2 ++ [32, 101, 108, 115, 101, 32] ++ (ptW ps 2).2
 else if k = 9 then (ptW ps 0).at (if levE k s = 1 then 2 else levE k s) ++ [32] ++ s ++ [32] ++ (ptW ps 1).at (levE k s + 1)
 else if k = 10 then s ++ (if ps.length > 0 then [91] ++ joinW [44, 32] (ps.map Prod.snd) ++ [93] else [])
 else if k = 11 then [109, 97, 116, 99, 104, 32] ++ (ptW ps 0).2 ++ [32] ++ brW as
 else if k = 12 then [100, 111, 32] ++ s ++ [32] ++ (ptW ps 0).at 5
 else if k = 13 then s ++ [46] ++ t ++ [32] ++ (ptW ps 0).at 5
 else if k = 14 then (if n = 1 then [115, 104, 97, 108, 108, 111, 119, 32] else [104, 97, 110, 100, 108, 101, 32]) ++ s ++ [32] ++ (ptW ps 0).2 ++ [32] ++ brW as
 else if k = 15 then [110, 97, 109, 101, 100, 32] ++ nmW nm 0 ++ [32] ++ s ++ [32] ++ (ptW ps 0).2 ++ [32] ++ brW as
 else if k = 16 then [109, 97, 115, 107, 32] ++ s ++ [32] ++ (ptW ps 0).at 5
 else if k = 17 then [117, 115, 105, 110, 103, 32] ++ nmW nm 0 ++ [32, 91] ++ joinW [44, 32] (nm.drop 1) ++ [93, 32, 61, 32] ++ (ptW ps 0).2 ++ [32, 99, 108, 111, 115, 101, 32] ++ (ptW ps 1).2 ++ [32, 105, 110, 32] ++ (ptW ps 2).2
 else if k = 18 then [114, 101, 115, 117, 109, 101, 32] ++ s ++ [32] ++ (ptW ps 0).at 5
 else [100, 114, 111, 112, 32] ++ s
theorem nw0 (n : Int) (s t : List UInt8) (nm : List (List UInt8)) (ps : List Pw) (as : List (List UInt8)) : nodeW 0 n s t nm ps as = s := rfl
theorem nw1 (n : Int) (s t : List UInt8) (nm : List (List UInt8)) (ps : List Pw) (as : List (List UInt8)) : nodeW 1 n s t nm ps as = (if n < 0 then [40] ++ digI n ++ [41] else digI n) := rfl
theorem nw2 (n : Int) (s t : List UInt8) (nm : List (List UInt8)) (ps : List Pw) (as : List (List UInt8)) : nodeW 2 n s t nm ps as = (if n = 1 then [116, 114, 117, 101] else [102, 97, 108, 115, 101]) := rfl
theorem nw3 (n : Int) (s t : List UInt8) (nm : List (List UInt8)) (ps : List Pw) (as : List (List UInt8)) : nodeW 3 n s t nm ps as = [40, 41] := rfl
theorem nw4 (n : Int) (s t : List UInt8) (nm : List (List UInt8)) (ps : List Pw) (as : List (List UInt8)) : nodeW 4 n s t nm ps as = [102, 117, 110, 32] ++ nmW nm 0 ++ [32, 45, 62, 32] ++ (ptW ps 0).2 := rfl
theorem nw5 (n : Int) (s t : List UInt8) (nm : List (List UInt8)) (ps : List Pw) (as : List (List UInt8)) : nodeW 5 n s t nm ps as = (ptW ps 0).at 4 ++ [32] ++ (ptW ps 1).at 5 := rfl
theorem nw6 (n : Int) (s t : List UInt8) (nm : List (List UInt8)) (ps : List Pw) (as : List (List UInt8)) : nodeW 6 n s t nm ps as = [108, 101, 116, 32] ++ joinW [32] nm ++ [32, 61, 32] ++ (ptW ps 0).2 ++ [32, 105, 110, 32] ++ (ptW ps 1).2 := rfl
theorem nw7 (n : Int) (s t : List UInt8) (nm : List (List UInt8)) (ps : List Pw) (as : List (List UInt8)) : nodeW 7 n s t nm ps as = [114, 101, 99, 32] ++ joinW [32] nm ++ [32, 61, 32] ++ (ptW ps 0).2 ++ [32, 105, 110, 32] ++ (ptW ps 1).2 := rfl
theorem nw8 (n : Int) (s t : List UInt8) (nm : List (List UInt8)) (ps : List Pw) (as : List (List UInt8)) : nodeW 8 n s t nm ps as = [105, 102, 32] ++ (ptW ps 0).2 ++ [32, 116, 104, 101, 110, 32] ++ (ptW ps 1).2 ++ [32, 101, 108, 115, 101, 32] ++ (ptW ps 2).2 := rfl
theorem nw9 (n : Int) (s t : List UInt8) (nm : List (List UInt8)) (ps : List Pw) (as : List (List UInt8)) : nodeW 9 n s t nm ps as = (ptW ps 0).at (if levE 9 s = 1 then 2 else levE 9 s) ++ [32] ++ s ++ [32] ++ (ptW ps 1).at (levE 9 s + 1) := rfl
theorem nw10 (n : Int) (s t : List UInt8) (nm : List (List UInt8)) (ps : List Pw) (as : List (List UInt8)) : nodeW 10 n s t nm ps as = s ++ (if ps.length > 0 then [91] ++ joinW [44, 32] (ps.map Prod.snd) ++ [93] else []) := rfl
theorem nw11 (n : Int) (s t : List UInt8) (nm : List (List UInt8)) (ps : List Pw) (as : List (List UInt8)) : nodeW 11 n s t nm ps as = [109, 97, 116, 99, 104, 32] ++ (ptW ps 0).2 ++ [32] ++ brW as := rfl
theorem nw12 (n : Int) (s t : List UInt8) (nm : List (List UInt8)) (ps : List Pw) (as : List (List UInt8)) : nodeW 12 n s t nm ps as = [100, 111, 32] ++ s ++ [32] ++ (ptW ps 0).at 5 := rfl
theorem nw13 (n : Int) (s t : List UInt8) (nm : List (List UInt8)) (ps : List Pw) (as : List (List UInt8)) : nodeW 13 n s t nm ps as = s ++ [46] ++ t ++ [32] ++ (ptW ps 0).at 5 := rfl
theorem nw14 (n : Int) (s t : List UInt8) (nm : List (List UInt8)) (ps : List Pw) (as : List (List UInt8)) : nodeW 14 n s t nm ps as = (if n = 1 then [115, 104, 97, 108, 108, 111, 119, 32] else [104, 97, 110, 100, 108, 101, 32]) ++ s ++ [32] ++ (ptW ps 0).2 ++ [32] ++ brW as := rfl
theorem nw15 (n : Int) (s t : List UInt8) (nm : List (List UInt8)) (ps : List Pw) (as : List (List UInt8)) : nodeW 15 n s t nm ps as = [110, 97, 109, 101, 100, 32] ++ nmW nm 0 ++ [32] ++ s ++ [32] ++ (ptW ps 0).2 ++ [32] ++ brW as := rfl
theorem nw16 (n : Int) (s t : List UInt8) (nm : List (List UInt8)) (ps : List Pw) (as : List (List UInt8)) : nodeW 16 n s t nm ps as = [109, 97, 115, 107, 32] ++ s ++ [32] ++ (ptW ps 0).at 5 := rfl
theorem nw17 (n : Int) (s t : List UInt8) (nm : List (List UInt8)) (ps : List Pw) (as : List (List UInt8)) : nodeW 17 n s t nm ps as = [117, 115, 105, 110, 103, 32] ++ nmW nm 0 ++ [32, 91] ++ joinW [44, 32] (nm.drop 1) ++ [93, 32, 61, 32] ++ (ptW ps 0).2 ++ [32, 99, 108, 111, 115, 101, 32] ++ (ptW ps 1).2 ++ [32, 105, 110, 32] ++ (ptW ps 2).2 := rfl
theorem nw18 (n : Int) (s t : List UInt8) (nm : List (List UInt8)) (ps : List Pw) (as : List (List UInt8)) : nodeW 18 n s t nm ps as = [114, 101, 115, 117, 109, 101, 32] ++ s ++ [32] ++ (ptW ps 0).at 5 := rfl
theorem nw19 (n : Int) (s t : List UInt8) (nm : List (List UInt8)) (ps : List Pw) (as : List (List UInt8)) : nodeW 19 n s t nm ps as = [100, 114, 111, 112, 32] ++ s := rfl
mutual
def textE : Ex → List UInt8
 | .mk k n s t nm l as => nodeW k n s t nm (partsW l) (armsW as)
def partsW : List Ex → List Pw
 | [] => []
 | x :: l => (levE x.kind x.s, textE x) :: partsW l
def armsW : List Ar → List (List UInt8)
 | [] => []
 | .mk o nm b :: l => armW o nm (textE b) :: armsW l
end
def partW (x : Ex) : Pw := (levE x.kind x.s, textE x)
def Ar.text (a : Ar) : List UInt8 := armW a.op a.names (textE a.body)
theorem partsW_eq : ∀ l, partsW l = l.map partW
 | [] => rfl
 | x :: l => by simp only [partsW, partsW_eq l, List.map_cons]; rfl
theorem armsW_eq : ∀ l, armsW l = l.map Ar.text
 | [] => rfl
 | .mk o nm b :: l => by simp only [armsW, armsW_eq l, List.map_cons]; rfl
theorem textE_eq (e : Ex) : textE e = nodeW e.kind e.n e.s e.t e.names (e.l.map partW) (e.arms.map Ar.text) := by
 cases e
 simp only [textE, partsW_eq, armsW_eq]; rfl
end Go.Ev
namespace Go.Ev
open Go.RowKit
theorem wordB_ne {s : List UInt8} {n : Nat} (h : wordB s n = true) : s ≠ [] := by
 intro e; subst e; cases h
theorem clsB1_ne {s : List UInt8} {c : Nat} (hc : c = 1 ∨ c = 2) (h : clsB s c = true) : s ≠ [] := by
 rcases hc with rfl | rfl
 ·have h : isVarB s = true := h
  unfold isVarB at h
  simp only [Bool.and_eq_true] at h
  exact wordB_ne h.1
 ·exact wordB_ne (show wordB s 3 = true from h)
theorem distE_ok (c : Nat) (hc : c = 1 ∨ c = 2) : ∀ (l seen : List (List UInt8)), distE c seen l = 0 → ∀ w ∈ l, w.length ≤ 12 ∧ w ≠ []
 | s :: l, seen, h, w, hw => by
  unfold distE at h
  split at h
  ·cases h
  ·rename_i h1
   split at h
   ·cases h
   ·simp only [Bool.not_eq_true', Bool.not_eq_false] at h1
    rcases List.mem_cons.1 hw with rfl | hw
    ·exact ⟨clsB_len h1, clsB1_ne hc h1⟩
    ·exact distE_ok c hc l _ h w hw
structure ArF (a : Ar) : Prop where
 op : a.op.length ≤ 12
 ne : a.op ≠ []
 nmc : a.names.length ≤ 4
 nm : ∀ w ∈ a.names, w.length ≤ 12 ∧ w ≠ []
theorem armE_ok {kind : Int} {seen : List (List UInt8)} {a : Ar} (h : armE kind seen a = 0) : ArF a := by
 rw [armE_eq] at h
 have hnm := distE_ok 1 (.inl rfl) a.names []
 unfold armB at h
 split at h
 ·split at h
  ·exact absurd h (by decide)
  ·rename_i g1
   split at h
   ·exact absurd h (by decide)
   ·rename_i g2
    simp only [Bool.not_eq_true', Bool.not_eq_false, decide_eq_true_eq] at g1 g2
    split at h
    ·rename_i g3
     rw [h] at g3; exact absurd g3 (by decide)
    ·rename_i g3
     simp only [Bool.not_eq_true', Bool.not_eq_false, decide_eq_true_eq] at g3
     exact ⟨clsB_len g2, clsB1_ne (.inr rfl) g2, by omega, hnm g3⟩
 ·split at h
  ·split at h
   ·exact absurd h (by decide)
   ·rename_i g1
    simp only [Bool.not_eq_true', Bool.not_eq_false, Bool.and_eq_true, decide_eq_true_eq] at g1
    obtain ⟨a1, a2⟩ := g1
    split at h
    ·rename_i g3
     rw [h] at g3; exact absurd g3 (by decide)
    ·rename_i g3
     simp only [Bool.not_eq_true', Bool.not_eq_false, decide_eq_true_eq] at g3
     exact ⟨by rw [a2]; decide, by rw [a2]; simp, by omega, hnm g3⟩
  ·split at h
   ·exact absurd h (by decide)
   ·rename_i g1
    split at h
    ·exact absurd h (by decide)
    ·rename_i g2
     simp only [Bool.not_eq_true', Bool.not_eq_false, decide_eq_true_eq] at g1 g2
     split at h
     ·rename_i g3
      rw [h] at g3; exact absurd g3 (by decide)
     ·rename_i g3
      simp only [Bool.not_eq_true', Bool.not_eq_false, decide_eq_true_eq] at g3
      exact ⟨clsB_len g2, clsB1_ne (.inl rfl) g2, by omega, hnm g3⟩
theorem armsE_ok {kind : Int} : ∀ {l : List Ar} {seen : List (List UInt8)}, armsE kind seen l = 0 → ∀ a ∈ l, ArF a
 | b :: l, seen, h, a, ha => by
  obtain ⟨h1, h2⟩ := thenE_eq0 (by simpa only [armsE] using h)
  rcases List.mem_cons.1 ha with rfl | ha
  ·exact armE_ok h1
  ·exact armsE_ok h2 a ha
structure ExF (e : Ex) : Prop where
 k0 : 0 ≤ e.kind
 k1 : e.kind ≤ 19
 shape : ∃ x, shps[e.kind.toNat]? = some x ∧ x.low ≤ e.n ∧ e.n ≤ x.high ∧ clsB e.s x.s = true ∧ clsB e.t x.t = true ∧ x.names ≤ e.names.length ∧ e.names.length ≤ x.names + x.more ∧ x.parts ≤ e.l.length ∧ e.l.length ≤ x.parts + x.plus
 arms0 : ∃ x, shps[e.kind.toNat]? = some x ∧ (x.arms = false → e.arms = [])
 nm : ∀ w ∈ e.names, w.length ≤ 12 ∧ w ≠ []
 arc : e.arms.length ≤ 9
 ar : ∀ a ∈ e.arms, ArF a
theorem node_ok {e : Ex} (h : nodeE e = 0) : ExF e := by
 unfold nodeE at h
 split at h
 ·cases h
 rename_i g0
 simp only [Bool.not_eq_true', Bool.not_eq_false] at g0
 have hk := amongB_nat g0
 split at h
 ·cases h
 rename_i x hx
 split at h
 ·cases h
 rename_i g1
 split at h
 ·cases h
 rename_i g2
 split at h
 ·cases h
 rename_i g3
 split at h
 ·cases h
 rename_i g4
 simp only [Bool.or_eq_true, Bool.not_eq_true', not_or, Bool.not_eq_false] at g1 g2 g3
 simp only [Bool.or_eq_true, not_or, decide_eq_true_eq] at g4
 unfold amongB at g1 g3
 simp only [Bool.and_eq_true, decide_eq_true_eq] at g1 g3
 obtain ⟨h1, h2⟩ := thenE_eq0 h
 obtain ⟨h2, h3⟩ := thenE_eq0 h2
 obtain ⟨h3, _⟩ := thenE_eq0 h3
 refine ⟨hk.1, by omega, ⟨x, hx, g1.1, g1.2, g2.1, g2.2, by omega, by omega, by omega, by omega⟩, ⟨x, hx, fun hxa => ?_⟩, fun w hw => ?_, by have := g4.2; omega, armsE_ok h3⟩
 ·have := g4.1
  rw [hxa] at this
  simp at this
  exact this
 have hw2 : w ∈ e.names.take (if decide (e.kind = 17) = true then 1 else e.names.length) ++ e.names.drop (if decide (e.kind = 17) = true then 1 else e.names.length) := by rw [List.take_append_drop]; exact hw
 rcases List.mem_append.1 hw2 with hw2 | hw2
 ·exact distE_ok 1 (.inl rfl) _ _ h1 w hw2
 ·exact distE_ok 2 (.inr rfl) _ _ h2 w hw2
theorem errsE_mem : ∀ {l : List Ex}, errsE l = 0 → ∀ x ∈ l, nodesE x = 0
 | y :: l, h, x, hx => by
  obtain ⟨h1, h2⟩ := thenE_eq0 (by simpa only [errsE] using h)
  rcases List.mem_cons.1 hx with rfl | hx
  ·exact h1
  ·exact errsE_mem h2 x hx
theorem nodes_ok {e : Ex} (h : nodesE e = 0) : ExF e ∧ ∀ x ∈ e.parts, nodesE x = 0 := by
 rw [nodesE_eq] at h
 obtain ⟨h1, h2⟩ := thenE_eq0 h
 exact ⟨node_ok h1, errsE_mem h2⟩
theorem shp_names : ∀ x ∈ shps, x.names + x.more ≤ 13 := by decide
theorem shp_n : ∀ x ∈ shps, -1000000000 < x.low ∧ x.high < 1000000000 := by decide
theorem ExF.n {e : Ex} (h : ExF e) : -1000000000 < e.n ∧ e.n < 1000000000 := by
 obtain ⟨x, hx, h1, h2, _⟩ := h.shape
 have := shp_n x (List.mem_of_getElem? hx)
 omega
theorem ExF.s {e : Ex} (h : ExF e) : e.s.length ≤ 12 := by obtain ⟨x, _, _, _, h3, _⟩ := h.shape; exact clsB_len h3
theorem ExF.t {e : Ex} (h : ExF e) : e.t.length ≤ 12 := by obtain ⟨x, _, _, _, _, h3, _⟩ := h.shape; exact clsB_len h3
theorem ExF.nmc {e : Ex} (h : ExF e) : e.names.length ≤ 13 := by
 obtain ⟨x, hx, _, _, _, _, _, h2, _⟩ := h.shape
 have := shp_names x (List.mem_of_getElem? hx)
 omega
theorem mem_l {e x : Ex} (h : x ∈ e.l) : x ∈ e.parts := List.mem_append_left _ h
theorem mem_arm {e : Ex} {a : Ar} (h : a ∈ e.arms) : a.body ∈ e.parts := List.mem_append_right _ (List.mem_map_of_mem h)
theorem Pw.at_len (p : Pw) (least : Int) : (p.at least).length ≤ p.2.length + 2 := by
 unfold Pw.at
 split <;> simp
theorem armW_len {a : Ar} (h : ArF a) : a.text.length ≤ 70 + (textE a.body).length := by
 have h1 := flatW_len (fun s : List UInt8 => [32] ++ s) 13 a.names fun w hw => by have := (h.nm w hw).1; simp; omega
 have h2 := h.op
 have h3 := h.nmc
 unfold Ar.text armW
 simp only [List.length_append, List.length_cons, List.length_nil]
 omega
theorem brW_len {l : List Ar} (h : ∀ a ∈ l, ArF a) (hc : l.length ≤ 9) : (brW (l.map Ar.text)).length ≤ 660 + (l.map fun a => (textE a.body).length).sum := by
 have key : ∀ l : List Ar, (∀ a ∈ l, ArF a) → ((l.map Ar.text).flatMap fun y => [59, 32] ++ y).length ≤ l.length * 72 + (l.map fun a => (textE a.body).length).sum := by
  intro l
  induction l with
  | nil => intro _; simp
  | cons a l ih =>
   intro h
   have h1 := armW_len (h a (.head _))
   have h2 := ih fun b hb => h b (.tail _ hb)
   simp only [List.map_cons, List.flatMap_cons, List.length_append, List.length_cons, List.length_nil, List.sum_cons, Nat.add_mul]
   omega
 unfold brW
 split
 ·show 3 ≤ _; omega
 ·cases l with
  | nil => simp at *
  | cons a l =>
   have h1 := armW_len (h a (.head _))
   have h2 := key l fun b hb => h b (.tail _ hb)
   simp only [List.length_cons] at hc
   simp only [List.map_cons, joinW, List.length_append, List.length_cons, List.length_nil, List.sum_cons]
   omega
def sumW (l : List Ex) : Nat := (l.map fun x => (textE x).length + 2).sum
theorem pt_len (l : List Ex) : (ptW (l.map partW) 0).2.length + (ptW (l.map partW) 1).2.length + (ptW (l.map partW) 2).2.length ≤ sumW l := by
 match l with
 | [] => simp [ptW, sumW]
 | [a] => simp [ptW, sumW, partW]
 | [a, b] => simp [ptW, sumW, partW]; omega
 | a :: b :: c :: l => simp [ptW, sumW, partW]; omega
theorem nm_len {l : List (List UInt8)} (h : ∀ w ∈ l, w.length ≤ 12 ∧ w ≠ []) (i : Nat) : (nmW l i).length ≤ 12 := by
 unfold nmW
 rw [List.getD_eq_getElem?_getD]
 cases hx : l[i]? with
 | none => simp
 | some x => exact (h x (List.mem_of_getElem? hx)).1
theorem parts_len (l : List Ex) : (joinW [44, 32] ((l.map partW).map Prod.snd)).length ≤ sumW l := by
 rw [List.map_map]
 cases l with
 | nil => simp [joinW, sumW]
 | cons x l =>
  have key : ∀ l : List Ex, ((l.map (Prod.snd ∘ partW)).flatMap fun y => [44, 32] ++ y).length ≤ sumW l := by
   intro l
   induction l with
   | nil => simp [sumW]
   | cons y l ih =>
    unfold sumW at *
    simp only [List.map_cons, List.flatMap_cons, List.length_append, List.length_cons, List.length_nil, List.sum_cons]
    have e : (Prod.snd ∘ partW) y = textE y := rfl
    rw [e]
    omega
  have := key l
  unfold sumW at *
  simp only [List.map_cons, joinW, List.length_append, List.sum_cons]
  have e : (Prod.snd ∘ partW) x = textE x := rfl
  rw [e]
  omega
set_option maxRecDepth 10000 in
theorem node_len {e : Ex} (hf : ExF e) : (textE e).length ≤ 1500 + sumW e.l + (e.arms.map fun a => (textE a.body).length).sum := by
 have hs := hf.s
 have ht := hf.t
 have hd := digI_len hf.n.1 hf.n.2
 have hb := brW_len hf.ar hf.arc
 have hp := parts_len e.l
 have h0 := pt_len e.l
 have n0 := nm_len hf.nm 0
 have hj := joinW_len [32] 12 e.names fun w hw => (hf.nm w hw).1
 have hj2 := joinW_len [44, 32] 12 (e.names.drop 1) fun w hw => (hf.nm w (List.mem_of_mem_drop hw)).1
 have hc := hf.nmc
 have hdl : (e.names.drop 1).length ≤ 13 := by rw [List.length_drop]; omega
 simp only [List.length_cons, List.length_nil] at hj hj2
 have a0 := Pw.at_len (ptW (e.l.map partW) 0) 4
 have a1 := Pw.at_len (ptW (e.l.map partW) 0) 5
 have a2 := Pw.at_len (ptW (e.l.map partW) 1) 5
 have a3 := Pw.at_len (ptW (e.l.map partW) 0) (if levE e.kind e.s = 1 then 2 else levE e.kind e.s)
 have a4 := Pw.at_len (ptW (e.l.map partW) 1) (levE e.kind e.s + 1)
 rw [textE_eq]
 generalize (e.l.map partW) = ps at *
 generalize (e.arms.map Ar.text) = as at *
 generalize (e.arms.map fun a => (textE a.body).length).sum = sa at *
 generalize sumW e.l = sp at *
 have hk0 := hf.k0
 have hk1 := hf.k1
 have hk : e.kind = 0 ∨ e.kind = 1 ∨ e.kind = 2 ∨ e.kind = 3 ∨ e.kind = 4 ∨ e.kind = 5 ∨ e.kind = 6 ∨ e.kind = 7 ∨ e.kind = 8 ∨ e.kind = 9 ∨ e.kind = 10 ∨ e.kind = 11 ∨ e.kind = 12 ∨ e.kind = 13 ∨ e.kind = 14 ∨ e.kind = 15 ∨ e.kind = 16 ∨ e.kind = 17 ∨ e.kind = 18 ∨ e.kind = 19 := by omega
 generalize e.kind = k at *
 generalize e.names = nm at *
 generalize e.s = s at *
 generalize e.t = t at *
 generalize e.n = n at *
 clear hf
 rcases hk with rfl | rfl | rfl | rfl | rfl | rfl | rfl | rfl | rfl | rfl | rfl | rfl | rfl | rfl | rfl | rfl | rfl | rfl | rfl | rfl
 ·rw [nw0]
  omega
 ·rw [nw1]
  split <;> (try simp only [List.length_append, List.length_cons, List.length_nil]) <;> omega
 ·rw [nw2]
  split <;> (try simp only [List.length_append, List.length_cons, List.length_nil]) <;> omega
 ·rw [nw3]
  simp only [List.length_append, List.length_cons, List.length_nil]; omega
 ·rw [nw4]
  simp only [List.length_append, List.length_cons, List.length_nil]; omega
 ·rw [nw5]
  simp only [List.length_append, List.length_cons, List.length_nil]; omega
 ·rw [nw6]
  simp only [List.length_append, List.length_cons, List.length_nil]; omega
 ·rw [nw7]
  simp only [List.length_append, List.length_cons, List.length_nil]; omega
 ·rw [nw8]
  simp only [List.length_append, List.length_cons, List.length_nil]; omega
 ·rw [nw9]
  simp only [List.length_append, List.length_cons, List.length_nil]; omega
 ·rw [nw10]
  rw [List.length_append]
  split <;> (try simp only [List.length_append, List.length_cons, List.length_nil]) <;> omega
 ·rw [nw11]
  simp only [List.length_append, List.length_cons, List.length_nil]; omega
 ·rw [nw12]
  simp only [List.length_append, List.length_cons, List.length_nil]; omega
 ·rw [nw13]
  simp only [List.length_append, List.length_cons, List.length_nil]; omega
 ·rw [nw14]
  split <;> simp only [List.length_append, List.length_cons, List.length_nil] <;> omega
 ·rw [nw15]
  simp only [List.length_append, List.length_cons, List.length_nil]; omega
 ·rw [nw16]
  simp only [List.length_append, List.length_cons, List.length_nil]; omega
 ·rw [nw17]
  simp only [List.length_append, List.length_cons, List.length_nil]; omega
 ·rw [nw18]
  simp only [List.length_append, List.length_cons, List.length_nil]; omega
 ·rw [nw19]
  simp only [List.length_append, List.length_cons, List.length_nil]; omega
theorem sum_l : ∀ (l : List Ex), (∀ x ∈ l, (textE x).length + 2 ≤ 1502 * x.nodes) → sumW l ≤ 1502 * Exs.nodes l
 | [], _ => by simp [sumW]
 | x :: l, h => by
  have h1 := h x (.head _)
  have h2 := sum_l l fun y hy => h y (.tail _ hy)
  unfold sumW at *
  simp only [List.map_cons, List.sum_cons, Exs.nodes]
  omega
theorem sum_a : ∀ (l : List Ar), (∀ a ∈ l, (textE a.body).length + 2 ≤ 1502 * a.body.nodes) → (l.map fun a => (textE a.body).length).sum ≤ 1502 * Ars.nodes l
 | [], _ => by simp
 | .mk o nm b :: l, h => by
  have h1 := h (.mk o nm b) (.head _)
  have h2 := sum_a l fun y hy => h y (.tail _ hy)
  simp only [List.map_cons, List.sum_cons, Ars.nodes, Ar.body] at h1 h2 ⊢
  omega
theorem textE_len : ∀ (N : Nat) (e : Ex), e.nodes ≤ N → nodesE e = 0 → (textE e).length + 2 ≤ 1502 * e.nodes := by
 intro N
 induction N with
 | zero => intro e hN; cases e; simp [Ex.nodes] at hN
 | succ N ih =>
  intro e hN h
  obtain ⟨hf, hp⟩ := nodes_ok h
  have h1 := sum_l e.l fun x hx => ih x (by have := Ex.part_l hx; omega) (hp x (mem_l hx))
  have h2 := sum_a e.arms fun a ha => ih a.body (by have := Ex.part_a ha; omega) (hp _ (mem_arm ha))
  have h3 := node_len hf
  have h4 : e.nodes = 1 + Exs.nodes e.l + Ars.nodes e.arms := by cases e; rfl
  omega
theorem check_textE {e : Ex} (h : checkE e = 0) : nodesE e = 0 ∧ (textE e).length ≤ 5000000 := by
 unfold checkE at h
 split at h
 ·rename_i hf
  unfold fitsB at hf
  simp only [Bool.and_eq_true, Nat.ble_eq] at hf
  have := textE_len e.nodes e (Nat.le_refl _) h
  exact ⟨h, by omega⟩
 ·cases h
end Go.Ev
namespace Go.Ev
open Go.RowKit
def BufJ (e : TypeId) (S0 S : St) (b : V) (s : List UInt8) : Prop := ∃ k, b = .list (some e) 1 (ofBytes s) (.own k) ∧ S0.next ≤ k ∧ k < S.next ∧ S.h.find k = some .tok
theorem app_bufJ {P : Program} {t u e : TypeId} [ha : App P t u e 1 false 1] {S0 S : St} {b : V} {s : List UInt8} (h : BufJ e S0 S b s) (k0 : Same S0 S) (w : List UInt8) (hl : s.length + w.length ≤ 1099511627776) :
 ∃ b' S', appendE P t u b (.str w) S = some (b', S') ∧ BufJ e S0 S' b' (s ++ w) ∧ Same S0 S' ∧ S.next ≤ S'.next ∧ (∀ id t cs, id < S.next → S.h.find id = some (.box t cs) → S'.h.find id = some (.box t cs)) := by
 obtain ⟨i, ud, z, h1, h2, h3, h4, h5, h6, h7, h8, h9⟩ := ha.inf
 have hr : readS S false 1 (.str w) = some (ofBytes w) := rfl
 have hall : (ofBytes w).all (fun v => Nat.beq v.cells.length 1 && v.cells.all V.one) = true := List.all_eq_true.2 fun z hz => by
  rw [(ofBytes_all w z hz).1, (ofBytes_all w z hz).2]; rfl
 have hb : Nat.ble 1 1 = true := rfl
 have hroom : ∀ n, n ≤ 1099511627776 → roomOk n 1 = true := by
  intro n hn
  unfold roomOk
  rw [Nat.ble_eq_true_of_le (by omega), Nat.ble_eq_true_of_le (by omega)]; rfl
 have hlen := ofBytes_length w
 have hlen2 := ofBytes_length s
 obtain ⟨k, rfl, hk, hlt, hf⟩ := h
 by_cases hw : w = []
 ·subst hw
  refine ⟨.list (some e) 1 (ofBytes s) (.own k), S, ?_, ⟨k, by simp, hk, hlt, hf⟩, k0, Nat.le_refl _, fun _ _ _ _ h => h⟩
  have he : (ofBytes []).isEmpty = true := rfl
  unfold appendE
  rw [ha.el]
  simp only [h1, h4, h5, h7, h6, h2, hb, h8, Nat.beq_refl, hr, hall, he, Bool.not_true, Bool.or_false, Bool.false_eq_true, if_false, if_true]
 ·have he : (ofBytes w).isEmpty = false := by cases w with
   | nil => exact (hw rfl).elim
   | cons c w => rfl
  have hro : roomOk ((ofBytes s).length + (ofBytes w).length) 1 = true := hroom _ (by rw [hlen, hlen2]; exact hl)
  refine ⟨.list (some e) 1 (ofBytes (s ++ w)) (.own S.next), St.new { S with h := S.h.del k } .tok, ?_, ⟨S.next, rfl, k0.next, by simp [St.new], by simp [St.new, Tr.find_put]⟩, k0.roll hk, by simp [St.new], fun id t cs hi h => ?_⟩
  ·unfold appendE
   rw [ha.el]
   simp only [h1, h4, h5, h7, h6, h2, h3, hb, h8, Nat.beq_refl, hr, hall, he, hro, hf, Bool.not_true, Bool.or_false, Bool.false_eq_true, if_false, if_true]
   rw [ofBytes_append]
  ·simp only [St.new, Tr.find_put, Tr.find_del]
   rw [if_neg (by omega), if_neg (fun e => by subst e; rw [hf] at h; cases h)]; exact h
theorem isYld_none' {fr : Operand → Option V} {f : Operand} {args : Array Operand} {g : FuncId} {l : List V} (h : calleeE fr f args = some (g, l)) : isYld (fr f) = none := by
 unfold calleeE at h
 split at h
 ·rename_i e1 e2
  rw [e1]; rfl
 ·cases h
theorem act_ext {P : Program} {rec : Rec} {ev : Operand → Option V} {f : Operand} {args : Array Operand} {ats : Array TypeId} {g : FuncId} {l : List V} {fn : Func} {S S' : St} {v : V} {pn : Pan} (hcal : calleeE ev f args = some (g, l)) (hfn : P.funcs[g]? = some fn) (hb : fn.body = none) (hx : extE P fn l S = some (v, S')) :
 actE rec P (.call { callee := .value f, args, argTypes := ats }) ev pn S = some (.val v S') := by
 have hy := isYld_none' hcal
 simp only [actE, hy, hcal, hfn, hb, hx]
theorem Drw.ext [Glob] {P : Program} {ops : Array Oper} {ms : List Nat} {S0 S S' : St} {I : St → Prop} {l : List Nat} {F : Sh} {E : Env} {k : K} {i d : Nat} {ty : TypeId} {pos : String} {after : Array Edge} {v : V} {f : Operand} {args : Array Operand} {ats : Array TypeId} {g : FuncId} {m : List V} {fn : Func}
 (ho : ops[i]? = some ⟨some d, .call { callee := .value f, args, argTypes := ats }, ty, pos, after, none⟩) (hf : calleeE (Env.opd E) f args = some (g, m)) (hfn : P.funcs[g]? = some fn) (hb : fn.body = none) (hx : extE P fn m S = some (v, S')) (hI : I S') (hd : Nat.blt d F.n = true)
 (hk : Drw P ops ms S0 I l F ((d, v) :: E) S' k) : Drw P ops ms S0 I (i :: l) F E S k := .mk fun fr T hfr hT => by
 obtain ⟨fr', h5, h6⟩ := hfr.put v hd
 have hcal := calleeE_mono (fun x v => hfr.opd) hf
 have hact : actE (lim P) P (.call { callee := .value f, args, argTypes := ats }) (viewE fr (looks ops ⟨some d, .call { callee := .value f, args, argTypes := ats }, ty, pos, after, none⟩)) fr.pan S = some (.val v S') :=
  (actE_congr (fun x hx => viewE_opd (o := ⟨some d, .call { callee := .value f, args, argTypes := ats }, ty, pos, after, none⟩) hx) _ _).trans (act_ext hcal hfn hb hx)
 obtain ⟨x, fr2, S2, h7, h8⟩ := hk.h fr' (.act i ⟨some d, .call { callee := .value f, args, argTypes := ats }, ty, pos, after, none⟩ v S.next S' :: T) h6 ⟨hI, hT⟩
 refine ⟨x, fr2, S2, ?_, h8⟩
 have hcls : Nat.beq (clsE (.call { callee := .value f, args, argTypes := ats })) 3 = true := rfl
 simp only [drawE, ho, hcls, wantE, isT, Bool.and_self, if_true, hact, h5]
 exact h7
theorem op_cap0 {P : Program} {ev : Operand → Option V} {S : St} {t e : TypeId} [hs : ElT P t e] {ats : Array TypeId} {l : List TypeId} {args : Array Operand} (ha : mapO ev args.toList = some [.nils]) (ht : ats.toList = t :: l) :
 opE P (.call { callee := .builtin .cap, args, argTypes := ats }) ev S = some (.int .i64 (0 : Nat), S) := by
 have he : elemT P t = some e := by simp only [elemT, hs.h]
 simp only [opE, ha, ht, builtinE, he]
theorem slice_raw {P : Program} {T e : TypeId} {id n : Nat} {k : IntKind} (hT : P.underlying T = some (.slice e)) (hs : szOf P e = some 1) : sliceE P T (.raw e id n) none (some (.int k ((0 : Nat) : Int))) none = some (.list (some e) 1 [] (.own id)) := by
 have hb := sliceB_hi (k2 := k) (j := 0) (cap := n) (Nat.zero_le _)
 simp only [sliceE, hT, hs, hb, Nat.beq_refl, if_true]
theorem copy_nil {P : Program} {t e : TypeId} {a : Bool} {n : Nat} {lt : Option TypeId} {m : Nat} {tk : Tk} {S : St} (he : elemT P t = some e) (hs : szOf P e = some n) (ha : aggT P e = some a) : copyE P t (.list lt m [] tk) .nils S = some (.int .i64 (0 : Nat), S) := by
 simp only [copyE, he, hs, ha, readS]
theorem bt_copy0 {P : Program} {t u e : TypeId} {a : Bool} {n : Nat} {lt : Option TypeId} {m : Nat} {tk : Tk} {S : St} (he : elemT P t = some e) (hs : szOf P e = some n) (ha : aggT P e = some a) : builtinE P .copy [t, u] [.list lt m [] tk, .nils] S = some (.int .i64 (0 : Nat), S) := by
 unfold builtinE
 exact copy_nil he hs ha
theorem quo_max {k : Nat} (h0 : 0 < k) : intOp .quo .i64 9223372036854775807 (k : Int) = some (.int .i64 ((9223372036854775807 / k : Nat) : Int)) := by
 have h : ¬ ((k : Int) = 0) := by omega
 have e : (9223372036854775807 : Int).tdiv (k : Int) = ((9223372036854775807 / k : Nat) : Int) := by
  rw [Int.tdiv_eq_ediv_of_nonneg (by decide)]; exact (Int.natCast_ediv 9223372036854775807 k).symm
 have hle := Nat.div_le_self 9223372036854775807 k
 have hw : IntKind.wrap .i64 ((9223372036854775807 / k : Nat) : Int) = ((9223372036854775807 / k : Nat) : Int) := by
  generalize 9223372036854775807 / k = q at *
  rw [wrap_i64_id (by constructor <;> omega)]
 simp only [intOp, h, decide_false, Bool.false_eq_true, if_false, e, hw]
theorem sub_max {m : Nat} (h : m ≤ 9223372036854775807) : intOp .sub .i64 9223372036854775807 (m : Int) = some (.int .i64 ((9223372036854775807 - m : Nat) : Int)) := by
 have : IntKind.wrap .i64 (9223372036854775807 - (m : Int)) = ((9223372036854775807 - m : Nat) : Int) := by rw [wrap_i64_id (by constructor <;> omega)]; omega
 simp only [intOp, this]
theorem n_mulii {a b : Nat} (h : a * b < 9223372036854775808) : intOp .mul .i64 (a : Int) (b : Int) = some (.int .i64 ((a * b : Nat) : Int)) := n_muli b h
def PrV [Glob] (P : Program) (T e : TypeId) (g : FuncId) (l : List V) (id : Nat) (r : V) (w : List UInt8) : Prop :=
 ∀ S s, Prn T e S id s → s.length + w.length ≤ 1099511627776 → CallTo P g l S (fun v S' => v = r ∧ Prn T e S' id (s ++ w) ∧ KeepB S S' id) (fun _ _ => False)
theorem Opl.callV [Glob] {P : Program} {ops : Array Oper} {os : List Oper} {F : Sh} {E : Env} {U0 S : St} {k : K} {d : Nat} {ty : TypeId} {pos : String} {after : Array Edge} {f : Operand} {args : Array Operand} {ats : Array TypeId} {g : FuncId} {l : List V} {T e : TypeId} {id : Nat} {s w : List UInt8} {r : V}
 (hp : Prn T e S id s) (k0 : KeepB U0 S id) (hf : calleeE (Env.opd E) f args = some (g, l)) (hb : hasBody P g = true) (hc : PrV P T e g l id r w) (hl : s.length + w.length ≤ 1099511627776) (hd : Nat.blt d F.n = true)
 (h1 : ∀ S', Prn T e S' id (s ++ w) → KeepB U0 S' id → Opl P ops os F ((d, r) :: E) S' k) :
 Opl P ops (⟨some d, .call { callee := .value f, args, argTypes := ats }, ty, pos, after, none⟩ :: os) F E S k :=
 Opl.call hf hb (hc S s hp hl) hd (fun v S' h => by obtain ⟨rfl, h⟩ := h; exact h1 S' h.1 (k0.trans h.2)) (fun _ _ h => h.elim)
theorem isLn.cells {n : Nat} {v : V} (h : isLn n v) : v.cells = [v] := by
 rcases h with rfl | rfl | ⟨_, _, _, rfl⟩ <;> rfl
theorem ptW_at {l : List Ex} {i : Nat} {x : Ex} (h : l[i]? = some x) : ptW (l.map partW) i = partW x := by
 unfold ptW
 rw [List.getD_eq_getElem?_getD, List.getElem?_map, h]; rfl
theorem nmW_at {l : List (List UInt8)} {i : Nat} {x : List UInt8} (h : l[i]? = some x) : nmW l i = x := by
 unfold nmW
 rw [List.getD_eq_getElem?_getD, h]; rfl
end Go.Ev
namespace Go.Ev
open Go.RowKit
def Inf (u t : List UInt8) : Prop := ∃ a b, t = a ++ u ++ b
def InfP (u t : List UInt8) : Prop := ∃ a b, t = a ++ u ++ b ∧ 0 < a.length + b.length
theorem Inf.refl (u : List UInt8) : Inf u u := ⟨[], [], by simp⟩
theorem Inf.pre {u t : List UInt8} (h : Inf u t) (c : List UInt8) : Inf u (c ++ t) := by
 obtain ⟨a, b, rfl⟩ := h; exact ⟨c ++ a, b, by simp⟩
theorem Inf.post {u t : List UInt8} (h : Inf u t) (c : List UInt8) : Inf u (t ++ c) := by
 obtain ⟨a, b, rfl⟩ := h; exact ⟨a, b ++ c, by simp⟩
theorem Inf.preP {u t : List UInt8} (h : Inf u t) {c : List UInt8} (hc : 0 < c.length) : InfP u (c ++ t) := by
 obtain ⟨a, b, rfl⟩ := h; exact ⟨c ++ a, b, by simp, by simp; omega⟩
theorem Inf.postP {u t : List UInt8} (h : Inf u t) {c : List UInt8} (hc : 0 < c.length) : InfP u (t ++ c) := by
 obtain ⟨a, b, rfl⟩ := h; exact ⟨a, b ++ c, by simp, by simp; omega⟩
theorem InfP.pre {u t : List UInt8} (h : InfP u t) (c : List UInt8) : InfP u (c ++ t) := by
 obtain ⟨a, b, rfl, h⟩ := h; exact ⟨c ++ a, b, by simp, by simp; omega⟩
theorem InfP.post {u t : List UInt8} (h : InfP u t) (c : List UInt8) : InfP u (t ++ c) := by
 obtain ⟨a, b, rfl, h⟩ := h; exact ⟨a, b ++ c, by simp, by simp; omega⟩
theorem InfP.len {u t : List UInt8} (h : InfP u t) : u.length < t.length := by
 obtain ⟨a, b, rfl, h⟩ := h; simp; omega
theorem inf_join (by_ : List UInt8) {l : List (List UInt8)} {u x : List UInt8} (h : x ∈ l) (hu : Inf u x) : Inf u (joinW by_ l) := by
 cases l with
 | nil => cases h
 | cons y l =>
  simp only [joinW]
  rcases List.mem_cons.1 h with rfl | h2
  ·exact hu.post _
  ·clear h
   refine Inf.pre ?_ y
   induction l with
   | nil => cases h2
   | cons z l ih =>
    simp only [List.flatMap_cons]
    rcases List.mem_cons.1 h2 with rfl | h3
    ·exact (hu.pre by_).post _
    ·exact (ih h3).pre _
theorem inf_at (p : Pw) (n : Int) : Inf p.2 (p.at n) := by
 unfold Pw.at
 split
 ·exact Inf.refl _
 ·exact ((Inf.refl _).pre _).post _
theorem inf_br {l : List Ar} {a : Ar} (h : a ∈ l) : Inf (textE a.body) (brW (l.map Ar.text)) := by
 have hl : ¬ (l.map Ar.text).length = 0 := by
  intro e
  rw [List.length_map] at e
  cases l with
  | nil => cases h
  | cons b l => simp at e
 unfold brW
 rw [if_neg hl]
 have : Inf (textE a.body) a.text := by
  unfold Ar.text armW
  exact (Inf.refl _).pre _
 exact ((inf_join [59, 32] (List.mem_map_of_mem h) this).pre _).post _
set_option maxRecDepth 10000 in
theorem part_inf {e : Ex} (h0 : nodesE e = 0) {x : Ex} (hx : x ∈ e.parts) : InfP (textE x) (textE e) := by
 obtain ⟨hf, _⟩ := nodes_ok h0
 obtain ⟨sh, hsh, _, _, hcs, hct, hn1, hn2, hl1, hl2⟩ := hf.shape
 obtain ⟨sh', hsh', harm⟩ := hf.arms0
 have hs : sh' = sh := by rw [hsh] at hsh'; exact (Option.some.inj hsh').symm
 subst hs
 rw [textE_eq e]
 have hpt : ∀ i : Nat, e.l[i]? = some x → Inf (textE x) (ptW (e.l.map partW) i).2 ∧ ∀ n, Inf (textE x) ((ptW (e.l.map partW) i).at n) := by
  intro i hi
  rw [ptW_at hi]
  exact ⟨Inf.refl _, fun n => inf_at (partW x) n⟩
 have hk := hf.k0
 have hk1 := hf.k1
 have hkk : e.kind = 0 ∨ e.kind = 1 ∨ e.kind = 2 ∨ e.kind = 3 ∨ e.kind = 4 ∨ e.kind = 5 ∨ e.kind = 6 ∨ e.kind = 7 ∨ e.kind = 8 ∨ e.kind = 9 ∨ e.kind = 10 ∨ e.kind = 11 ∨ e.kind = 12 ∨ e.kind = 13 ∨ e.kind = 14 ∨ e.kind = 15 ∨ e.kind = 16 ∨ e.kind = 17 ∨ e.kind = 18 ∨ e.kind = 19 := by omega
 have hmem : (∃ i : Nat, i < e.l.length ∧ e.l[i]? = some x) ∨ ∃ a ∈ e.arms, x = a.body := by
  unfold Ex.parts at hx
  rcases List.mem_append.1 hx with h | h
  ·obtain ⟨i, hi⟩ := List.getElem?_of_mem h
   exact .inl ⟨i, (List.getElem?_eq_some_iff.1 hi).1, hi⟩
  ·obtain ⟨a, h1, rfl⟩ := List.mem_map.1 h
   exact .inr ⟨a, h1, rfl⟩
 rcases hkk with h | h | h | h | h | h | h | h | h | h | h | h | h | h | h | h | h | h | h | h
 ·rw [h] at hsh ⊢
  have hsx := Option.some.inj hsh
  subst hsx
  rw [nw0]
  rcases hmem with ⟨i, hi, hxi⟩ | ⟨a, ha, rfl⟩
  ·have hl2 : e.l.length ≤ 0 := hl2
   omega
  ·have := harm rfl
   rw [this] at ha; cases ha
 ·rw [h] at hsh ⊢
  have hsx := Option.some.inj hsh
  subst hsx
  rw [nw1]
  rcases hmem with ⟨i, hi, hxi⟩ | ⟨a, ha, rfl⟩
  ·have hl2 : e.l.length ≤ 0 := hl2
   omega
  ·have := harm rfl
   rw [this] at ha; cases ha
 ·rw [h] at hsh ⊢
  have hsx := Option.some.inj hsh
  subst hsx
  rw [nw2]
  rcases hmem with ⟨i, hi, hxi⟩ | ⟨a, ha, rfl⟩
  ·have hl2 : e.l.length ≤ 0 := hl2
   omega
  ·have := harm rfl
   rw [this] at ha; cases ha
 ·rw [h] at hsh ⊢
  have hsx := Option.some.inj hsh
  subst hsx
  rw [nw3]
  rcases hmem with ⟨i, hi, hxi⟩ | ⟨a, ha, rfl⟩
  ·have hl2 : e.l.length ≤ 0 := hl2
   omega
  ·have := harm rfl
   rw [this] at ha; cases ha
 ·rw [h] at hsh ⊢
  have hsx := Option.some.inj hsh
  subst hsx
  rw [nw4]
  rcases hmem with ⟨i, hi, hxi⟩ | ⟨a, ha, rfl⟩
  ·have hl2 : e.l.length ≤ 1 := hl2
   have hi2 : i = 0 := by omega
   rcases hi2 with rfl
   exact (hpt 0 hxi).1.preP (by simp only [List.length_append, List.length_cons, List.length_nil]; omega)
  ·have := harm rfl
   rw [this] at ha; cases ha
 ·rw [h] at hsh ⊢
  have hsx := Option.some.inj hsh
  subst hsx
  rw [nw5]
  rcases hmem with ⟨i, hi, hxi⟩ | ⟨a, ha, rfl⟩
  ·have hl2 : e.l.length ≤ 2 := hl2
   have hi2 : i = 0 ∨ i = 1 := by omega
   rcases hi2 with rfl | rfl
   ·exact (((hpt 0 hxi).2 4).postP (c := [32]) (by simp only [List.length_append, List.length_cons, List.length_nil]; omega)).post _
   ·exact ((hpt 1 hxi).2 5).preP (by simp only [List.length_append, List.length_cons, List.length_nil]; omega)
  ·have := harm rfl
   rw [this] at ha; cases ha
 ·rw [h] at hsh ⊢
  have hsx := Option.some.inj hsh
  subst hsx
  rw [nw6]
  rcases hmem with ⟨i, hi, hxi⟩ | ⟨a, ha, rfl⟩
  ·have hl2 : e.l.length ≤ 2 := hl2
   have hi2 : i = 0 ∨ i = 1 := by omega
   rcases hi2 with rfl | rfl
   ·exact ((((hpt 0 hxi).1.preP (by simp only [List.length_append, List.length_cons, List.length_nil]; omega)).post _).post _)
   ·exact (hpt 1 hxi).1.preP (by simp only [List.length_append, List.length_cons, List.length_nil]; omega)
  ·have := harm rfl
   rw [this] at ha; cases ha
 ·rw [h] at hsh ⊢
  have hsx := Option.some.inj hsh
  subst hsx
  rw [nw7]
  rcases hmem with ⟨i, hi, hxi⟩ | ⟨a, ha, rfl⟩
  ·have hl2 : e.l.length ≤ 2 := hl2
   have hi2 : i = 0 ∨ i = 1 := by omega
   rcases hi2 with rfl | rfl
   ·exact ((((hpt 0 hxi).1.preP (by simp only [List.length_append, List.length_cons, List.length_nil]; omega)).post _).post _)
   ·exact (hpt 1 hxi).1.preP (by simp only [List.length_append, List.length_cons, List.length_nil]; omega)
  ·have := harm rfl
   rw [this] at ha; cases ha
 ·rw [h] at hsh ⊢
  have hsx := Option.some.inj hsh
  subst hsx
  rw [nw8]
  rcases hmem with ⟨i, hi, hxi⟩ | ⟨a, ha, rfl⟩
  ·have hl2 : e.l.length ≤ 3 := hl2
   have hi2 : i = 0 ∨ i = 1 ∨ i = 2 := by omega
   rcases hi2 with rfl | rfl | rfl
   ·exact ((((((hpt 0 hxi).1.preP (by simp only [List.length_append, List.length_cons, List.length_nil]; omega)).post _).post _).post _).post _)
   ·exact ((((hpt 1 hxi).1.preP (by simp only [List.length_append, List.length_cons, List.length_nil]; omega)).post _).post _)
   ·exact (hpt 2 hxi).1.preP (by simp only [List.length_append, List.length_cons, List.length_nil]; omega)
  ·have := harm rfl
   rw [this] at ha; cases ha
 ·rw [h] at hsh ⊢
  have hsx := Option.some.inj hsh
  subst hsx
  rw [nw9]
  rcases hmem with ⟨i, hi, hxi⟩ | ⟨a, ha, rfl⟩
  ·have hl2 : e.l.length ≤ 2 := hl2
   have hi2 : i = 0 ∨ i = 1 := by omega
   rcases hi2 with rfl | rfl
   ·exact ((((((hpt 0 hxi).2 _).postP (c := [32]) (by simp only [List.length_append, List.length_cons, List.length_nil]; omega)).post _).post _).post _)
   ·exact ((hpt 1 hxi).2 _).preP (by simp only [List.length_append, List.length_cons, List.length_nil]; omega)
  ·have := harm rfl
   rw [this] at ha; cases ha
 ·rw [h] at hsh ⊢
  have hsx := Option.some.inj hsh
  subst hsx
  rw [nw10]
  rcases hmem with ⟨i, hi, hxi⟩ | ⟨a, ha, rfl⟩
  ·rw [if_pos (by rw [List.length_map]; omega)]
   have hm : textE x ∈ (e.l.map partW).map Prod.snd := by
    rw [List.map_map]
    exact List.mem_map_of_mem (f := Prod.snd ∘ partW) (List.mem_of_getElem? hxi)
   exact (((inf_join [44, 32] hm (Inf.refl _)).preP (by simp only [List.length_append, List.length_cons, List.length_nil]; omega)).post _).pre _
  ·have := harm rfl
   rw [this] at ha; cases ha
 ·rw [h] at hsh ⊢
  have hsx := Option.some.inj hsh
  subst hsx
  rw [nw11]
  rcases hmem with ⟨i, hi, hxi⟩ | ⟨a, ha, rfl⟩
  ·have hl2 : e.l.length ≤ 1 := hl2
   have hi2 : i = 0 := by omega
   rcases hi2 with rfl
   exact ((((hpt 0 hxi).1.preP (by simp only [List.length_append, List.length_cons, List.length_nil]; omega)).post _).post _)
  ·exact (inf_br ha).preP (by simp only [List.length_append, List.length_cons, List.length_nil]; omega)
 ·rw [h] at hsh ⊢
  have hsx := Option.some.inj hsh
  subst hsx
  rw [nw12]
  rcases hmem with ⟨i, hi, hxi⟩ | ⟨a, ha, rfl⟩
  ·have hl2 : e.l.length ≤ 1 := hl2
   have hi2 : i = 0 := by omega
   rcases hi2 with rfl
   exact ((hpt 0 hxi).2 5).preP (by simp only [List.length_append, List.length_cons, List.length_nil]; omega)
  ·have := harm rfl
   rw [this] at ha; cases ha
 ·rw [h] at hsh ⊢
  have hsx := Option.some.inj hsh
  subst hsx
  rw [nw13]
  rcases hmem with ⟨i, hi, hxi⟩ | ⟨a, ha, rfl⟩
  ·have hl2 : e.l.length ≤ 1 := hl2
   have hi2 : i = 0 := by omega
   rcases hi2 with rfl
   exact ((hpt 0 hxi).2 5).preP (by simp only [List.length_append, List.length_cons, List.length_nil]; omega)
  ·have := harm rfl
   rw [this] at ha; cases ha
 ·rw [h] at hsh ⊢
  have hsx := Option.some.inj hsh
  subst hsx
  rw [nw14]
  rcases hmem with ⟨i, hi, hxi⟩ | ⟨a, ha, rfl⟩
  ·have hl2 : e.l.length ≤ 1 := hl2
   have hi2 : i = 0 := by omega
   rcases hi2 with rfl
   exact ((((hpt 0 hxi).1.preP (by simp only [List.length_append, List.length_cons, List.length_nil]; omega)).post _).post _)
  ·exact (inf_br ha).preP (by simp only [List.length_append, List.length_cons, List.length_nil]; omega)
 ·rw [h] at hsh ⊢
  have hsx := Option.some.inj hsh
  subst hsx
  rw [nw15]
  rcases hmem with ⟨i, hi, hxi⟩ | ⟨a, ha, rfl⟩
  ·have hl2 : e.l.length ≤ 1 := hl2
   have hi2 : i = 0 := by omega
   rcases hi2 with rfl
   exact ((((hpt 0 hxi).1.preP (by simp only [List.length_append, List.length_cons, List.length_nil]; omega)).post _).post _)
  ·exact (inf_br ha).preP (by simp only [List.length_append, List.length_cons, List.length_nil]; omega)
 ·rw [h] at hsh ⊢
  have hsx := Option.some.inj hsh
  subst hsx
  rw [nw16]
  rcases hmem with ⟨i, hi, hxi⟩ | ⟨a, ha, rfl⟩
  ·have hl2 : e.l.length ≤ 1 := hl2
   have hi2 : i = 0 := by omega
   rcases hi2 with rfl
   exact ((hpt 0 hxi).2 5).preP (by simp only [List.length_append, List.length_cons, List.length_nil]; omega)
  ·have := harm rfl
   rw [this] at ha; cases ha
 ·rw [h] at hsh ⊢
  have hsx := Option.some.inj hsh
  subst hsx
  rw [nw17]
  rcases hmem with ⟨i, hi, hxi⟩ | ⟨a, ha, rfl⟩
  ·have hl2 : e.l.length ≤ 3 := hl2
   have hi2 : i = 0 ∨ i = 1 ∨ i = 2 := by omega
   rcases hi2 with rfl | rfl | rfl
   ·exact ((((((hpt 0 hxi).1.preP (by simp only [List.length_append, List.length_cons, List.length_nil]; omega)).post _).post _).post _).post _)
   ·exact ((((hpt 1 hxi).1.preP (by simp only [List.length_append, List.length_cons, List.length_nil]; omega)).post _).post _)
   ·exact (hpt 2 hxi).1.preP (by simp only [List.length_append, List.length_cons, List.length_nil]; omega)
  ·have := harm rfl
   rw [this] at ha; cases ha
 ·rw [h] at hsh ⊢
  have hsx := Option.some.inj hsh
  subst hsx
  rw [nw18]
  rcases hmem with ⟨i, hi, hxi⟩ | ⟨a, ha, rfl⟩
  ·have hl2 : e.l.length ≤ 1 := hl2
   have hi2 : i = 0 := by omega
   rcases hi2 with rfl
   exact ((hpt 0 hxi).2 5).preP (by simp only [List.length_append, List.length_cons, List.length_nil]; omega)
  ·have := harm rfl
   rw [this] at ha; cases ha
 ·rw [h] at hsh ⊢
  have hsx := Option.some.inj hsh
  subst hsx
  rw [nw19]
  rcases hmem with ⟨i, hi, hxi⟩ | ⟨a, ha, rfl⟩
  ·have hl2 : e.l.length ≤ 0 := hl2
   omega
  ·have := harm rfl
   rw [this] at ha; cases ha
end Go.Ev
namespace Go.Ev
open Go.RowKit
mutual
def leftX : Ex → Int → Int → Int
 | .mk _ _ _ _ _ l a, n, d => if d < 1 then -1 else leftAs a (leftLs l (IntKind.wrap .i64 (n - 1)) d) d
def leftLs : List Ex → Int → Int → Int
 | [], n, _ => n
 | x :: l, n, d => if n ≥ 0 then leftLs l (leftX x n (IntKind.wrap .i64 (d - 1))) d else n
def leftAs : List Ar → Int → Int → Int
 | [], n, _ => n
 | .mk _ _ b :: l, n, d => if n ≥ 0 then leftAs l (leftX b n (IntKind.wrap .i64 (d - 1))) d else n
end
theorem leftAs_eq : ∀ (l : List Ar) (n d : Int), leftAs l n d = leftLs (l.map Ar.body) n d
 | [], n, d => rfl
 | .mk o nm b :: l, n, d => by
  simp only [leftAs, List.map_cons, Ar.body, leftLs]
  split
  ·exact leftAs_eq l _ d
  ·rfl
theorem leftLs_neg {l : List Ex} {n d : Int} (h : ¬ n ≥ 0) : leftLs l n d = n := by
 cases l with
 | nil => rfl
 | cons x l => simp only [leftLs]; rw [if_neg h]
theorem leftLs_append : ∀ (l m : List Ex) (n d : Int), leftLs (l ++ m) n d = leftLs m (leftLs l n d) d
 | [], m, n, d => rfl
 | x :: l, m, n, d => by
  simp only [List.cons_append, leftLs]
  split
  ·exact leftLs_append l m _ d
  ·rename_i h; rw [leftLs_neg h]
theorem leftX_eq (e : Ex) (n d : Int) : leftX e n d = if d < 1 then -1 else leftLs e.parts (IntKind.wrap .i64 (n - 1)) d := by
 cases e with
 | mk k m s t nm l a =>
  simp only [leftX, leftAs_eq]
  rw [← leftLs_append]; rfl
def LeftOk (m : Int) (k p : Nat) (n d : Int) : Prop := (0 ≤ m ↔ (k : Int) ≤ n ∧ (p : Int) ≤ d) ∧ (0 ≤ m → m = n - k)
theorem leftLs_ok : ∀ l : List Ex, (∀ x ∈ l, ∀ n d : Int, -4611686018427387904 < n → n < 4611686018427387904 → -4611686018427387904 < d → d < 4611686018427387904 → LeftOk (leftX x n d) x.nodes x.depth n d) →
 ∀ n d : Int, -4611686018427387904 < n → n < 4611686018427387904 → 0 ≤ d → d < 4611686018427387903 → LeftOk (leftLs l n (d + 1)) (Exs.nodes l) (Exs.depth l) n d
 | [], _, n, d, _, _, h3, _ => by
  refine ⟨⟨fun h => ⟨?_, ?_⟩, fun h => ?_⟩, fun _ => ?_⟩ <;> simp only [leftLs, Exs.nodes, Exs.depth] at * <;> omega
 | x :: l, h, n, d, h1, h2, h3, h4 => by
  have hw : IntKind.wrap .i64 (d + 1 - 1) = d := by rw [wrap_i64_id (by constructor <;> omega)]; omega
  simp only [leftLs, Exs.nodes, Exs.depth]
  by_cases hn : n ≥ 0
  ·rw [if_pos hn, hw]
   obtain ⟨g1, g2⟩ := h x (.head _) n d h1 h2 (by omega) (by omega)
   by_cases hm : 0 ≤ leftX x n d
   ·have e := g2 hm
    obtain ⟨g3, g4⟩ := g1.1 hm
    obtain ⟨i1, i2⟩ := leftLs_ok l (fun y hy => h y (.tail _ hy)) (leftX x n d) d (by omega) (by omega) h3 h4
    refine ⟨⟨fun h => ?_, fun h => ?_⟩, fun h => ?_⟩
    ·obtain ⟨j1, j2⟩ := i1.1 h
     constructor <;> omega
    ·exact i1.2 (by omega)
    ·have := i2 h; omega
   ·rw [leftLs_neg (by omega)]
    refine ⟨⟨fun h => (hm h).elim, fun h => ?_⟩, fun h => (hm h).elim⟩
    exact (hm (g1.2 (by omega))).elim
  ·rw [if_neg hn]
   refine ⟨⟨fun h => by omega, fun h => by omega⟩, fun h => by omega⟩
theorem leftX_ok : ∀ (N : Nat) (e : Ex), e.nodes ≤ N → ∀ n d : Int, -4611686018427387904 < n → n < 4611686018427387904 → -4611686018427387904 < d → d < 4611686018427387904 → LeftOk (leftX e n d) e.nodes e.depth n d := by
 intro N
 induction N with
 | zero => intro e hN; cases e; simp [Ex.nodes] at hN
 | succ N IHN =>
  intro e hN n d h1 h2 h3 h4
  rw [leftX_eq]
  have hnp := e.nodes_parts
  have hdp := e.depth_parts
  by_cases hd : d < 1
  ·rw [if_pos hd]
   refine ⟨⟨fun h => by omega, fun h => by omega⟩, fun h => by omega⟩
  ·rw [if_neg hd]
   have hw : IntKind.wrap .i64 (n - 1) = n - 1 := wrap_i64_id (by constructor <;> omega)
   rw [hw]
   by_cases hn : -4611686018427387904 < n - 1
   ·have := leftLs_ok e.parts (fun x hx n d a b c d' => IHN x (by have := Ex.parts_nodes hx; omega) n d a b c d') (n - 1) (d - 1) hn (by omega) (by omega) (by omega)
    rw [show d - 1 + 1 = d by omega] at this
    obtain ⟨i1, i2⟩ := this
    refine ⟨⟨fun h => ?_, fun h => ?_⟩, fun h => ?_⟩
    ·obtain ⟨j1, j2⟩ := i1.1 h; constructor <;> omega
    ·exact i1.2 (by omega)
    ·have := i2 h; omega
   ·rw [leftLs_neg (by omega)]
    refine ⟨⟨fun h => by omega, fun h => by omega⟩, fun h => by omega⟩
theorem fits_iff (e : Ex) : fitsB e = true ↔ e.nodes ≤ 3000 ∧ e.depth ≤ 200 := by
 unfold fitsB
 simp only [Bool.and_eq_true, Nat.ble_eq]
theorem left_fits (e : Ex) : decide (leftX e 3000 200 < 0) = !fitsB e := by
 obtain ⟨h, _⟩ := leftX_ok e.nodes e (Nat.le_refl _) 3000 200 (by decide) (by decide) (by decide) (by decide)
 have hi := fits_iff e
 cases hf : fitsB e with
 | true =>
  have h2 := hi.1 hf
  have := h.2 (by omega)
  exact decide_eq_false (by omega)
 | false =>
  refine decide_eq_true ?_
  by_cases hl : leftX e 3000 200 < 0
  ·exact hl
  ·have h3 := h.1 (by omega)
   have h4 := hi.2 (by omega)
   rw [hf] at h4; cases h4
theorem left_nodes {e : Ex} (h : fitsB e = true) : leftX e 3000 200 = 3000 - e.nodes := by
 obtain ⟨h1, h2⟩ := leftX_ok e.nodes e (Nat.le_refl _) 3000 200 (by decide) (by decide) (by decide) (by decide)
 unfold fitsB at h
 simp only [Bool.and_eq_true, Nat.ble_eq] at h
 exact h2 (h1.2 (by omega))
inductive SmallX : Ex → Prop
 | mk {e : Ex} (h1 : e.l.length ≤ 50) (h2 : e.arms.length ≤ 50) (h3 : ∀ x, x ∈ e.parts → SmallX x) : SmallX e
theorem SmallX.l {e : Ex} (h : SmallX e) : e.l.length ≤ 50 := by cases h; assumption
theorem SmallX.arms {e : Ex} (h : SmallX e) : e.arms.length ≤ 50 := by cases h; assumption
theorem SmallX.part {e x : Ex} (h : SmallX e) (hx : x ∈ e.parts) : SmallX x := by cases h with | mk _ _ h3 => exact h3 x hx
theorem SmallX.of {e : Ex} (h1 : e.l.length ≤ 50) (h2 : e.arms.length ≤ 50) (h3 : ∀ x ∈ e.l, SmallX x) (h4 : ∀ a ∈ e.arms, SmallX a.body) : SmallX e := .mk h1 h2 fun x hx => by
 unfold Ex.parts at hx
 rcases List.mem_append.1 hx with h | h
 ·exact h3 x h
 ·obtain ⟨a, ha, rfl⟩ := List.mem_map.1 h
  exact h4 a ha
theorem mem_take_succ {α : Type} {l : List α} {i : Nat} {x y : α} (h : l[i]? = some x) (hy : y ∈ l.take (i + 1)) : y ∈ l.take i ∨ y = x := by
 obtain ⟨hlt, rfl⟩ := List.getElem?_eq_some_iff.1 h
 rw [List.take_succ_eq_append_getElem hlt] at hy
 rcases List.mem_append.1 hy with h | h
 ·exact .inl h
 ·exact .inr (by simpa using h)
end Go.Ev
