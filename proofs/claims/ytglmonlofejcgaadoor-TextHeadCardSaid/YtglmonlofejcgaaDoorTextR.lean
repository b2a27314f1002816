/- The text of a function, line by line, in plain words. How long the lines of a function are, up to each place. In plain words. -/
import Derived.Test.YtglmonlofejcgaaDoorJump6
import Derived.Test.YtglmonlofejcgaaDoorUses45
import Derived.Test.YtglmonlofejcgaaDoorFn1
namespace Go.Proofs.YtglmonlofejcgaaDoor.txt
open Go.RowKit Go.Proofs.YtglmonlofejcgaaDoor Go.Proofs.YtglmonlofejcgaaDoor.Am
set_option linter.unusedVariables false
def baseT (k : Int) : List UInt8 := if k = 1 then [105, 110, 116] else [112, 97, 105, 114]
def markT (k : Int) : List UInt8 := if k = 3 then [38] else if k = 4 then [38, 109, 117, 116, 32] else [42]
/-- the text of a type -/
def typT (t : List Value) : List UInt8 := if cellI t 1 = 0 then baseT (cellI t 0) else markT (cellI t 0) ++ baseT (cellI t 1)
def unsT (u : Bool) : List UInt8 := if u then [32, 117, 110, 115, 97, 102, 101] else []
def headT (n p : Int) (u : Bool) : List UInt8 := [102, 110, 32] ++ (decT n ++ ([32, 40] ++ (decT p ++ ([41] ++ unsT u))))
def locT (i : Nat) (t : List Value) : List UInt8 := 120 :: (decT (i : Nat) ++ ([58, 32] ++ typT t))
def bhT (i : Nat) : List UInt8 := 98 :: (decT (i : Nat) ++ [58])
def stL (el : List Value) : List UInt8 := [32, 32] ++ stT (stOf el)
def jmL (b : BlkD) : List UInt8 := [32, 32] ++ jumpT b.pre b.ops b.post
def noB : BlkD := ⟨.bool false, [], .bool false, [], [], []⟩
def locsTo (D : FnD) (i : Nat) : List (List UInt8) := (List.range i).map fun k => locT k (D.ls.getD k [])
def blkL (i : Nat) (b : BlkD) : List (List UInt8) := bhT i :: (b.st.map stL ++ [jmL b])
def blksTo (D : FnD) (i : Nat) : List (List UInt8) := (List.range i).flatMap fun k => blkL k (D.bs.getD k noB)
/-- the lines of a function with a number -/
def linesF (D : FnD) (n : Int) : List (List UInt8) := headT n D.p D.u :: (locsTo D D.ls.length ++ blksTo D D.bs.length)
/-- lines, each with what ends it -/
def nl (ls : List (List UInt8)) : List UInt8 := ls.flatMap fun l => l ++ [10]
def textF (D : FnD) (n : Int) : List UInt8 := nl (linesF D n)
theorem nl_append (a b : List (List UInt8)) : nl (a ++ b) = nl a ++ nl b := by simp [nl]
theorem nl_cons (l : List UInt8) (b : List (List UInt8)) : nl (l :: b) = l ++ (10 :: nl b) := by simp [nl]
theorem nl_one (l : List UInt8) : nl [l] = l ++ [10] := by simp [nl]
theorem nl_push (a : List (List UInt8)) (l : List UInt8) : nl (a ++ [l]) = nl a ++ (l ++ [10]) := by rw [nl_append, nl_one]
theorem locs_next (D : FnD) (i : Nat) : locsTo D (i + 1) = locsTo D i ++ [locT i (D.ls.getD i [])] := by simp [locsTo, List.range_succ]
theorem blks_next (D : FnD) (i : Nat) : blksTo D (i + 1) = blksTo D i ++ blkL i (D.bs.getD i noB) := by simp [blksTo, List.range_succ]
theorem locs_len (D : FnD) (i : Nat) : (locsTo D i).length = i := by simp [locsTo]
theorem typT_len (t : List Value) : (typT t).length ≤ 9 := by
  have hb : ∀ k, (baseT k).length ≤ 4 := fun k => by unfold baseT; split <;> simp
  have hm : ∀ k, (markT k).length ≤ 5 := fun k => by
    unfold markT
    split
    · simp
    · split <;> simp
  unfold typT
  split
  · have := hb (cellI t 0); omega
  · have := hb (cellI t 1); have := hm (cellI t 0); rw [List.length_append]; omega
theorem unsT_len (u : Bool) : (unsT u).length ≤ 7 := by cases u <;> simp [unsT]
theorem headT_len (n p : Int) (u : Bool) : (headT n p u).length ≤ 1100 := by
  have h1 := decT_len n
  have h2 := decT_len p
  have h3 := unsT_len u
  simp only [headT, List.length_append, List.length_cons, List.length_nil]
  omega
theorem locT_len (i : Nat) (t : List Value) : (locT i t).length ≤ 1100 := by
  have h1 := decT_len (i : Nat)
  have h2 := typT_len t
  simp only [locT, List.length_append, List.length_cons, List.length_nil]
  omega
theorem bhT_len (i : Nat) : (bhT i).length ≤ 1100 := by
  have h1 := decT_len (i : Nat)
  simp only [bhT, List.length_append, List.length_cons, List.length_nil]
  omega
theorem stL_len (el : List Value) : (stL el).length ≤ 1100 := by
  have h1 := stT_any (stOf el)
  simp only [stL, List.length_append, List.length_cons, List.length_nil]
  omega
theorem nl_len : ∀ {ls : List (List UInt8)}, (∀ l ∈ ls, l.length ≤ 1100) → (nl ls).length ≤ 1101 * ls.length
  | [], _ => by simp [nl]
  | l :: ls, h => by
    have h1 := h l List.mem_cons_self
    have h2 := nl_len fun x hx => h x (List.mem_cons_of_mem _ hx)
    rw [nl_cons]
    simp only [List.length_append, List.length_cons]
    omega
end Go.Proofs.YtglmonlofejcgaaDoor.txt
namespace Go.Proofs.YtglmonlofejcgaaDoor.txt
open Go.RowKit Go.Proofs.YtglmonlofejcgaaDoor Go.Proofs.YtglmonlofejcgaaDoor.Am
set_option linter.unusedVariables false
/-- the lines up to local i, to block i, to statement k of block i -/
def linL (D : FnD) (n : Int) (i : Nat) : List (List UInt8) := headT n D.p D.u :: locsTo D i
def linB (D : FnD) (n : Int) (i : Nat) : List (List UInt8) := headT n D.p D.u :: (locsTo D D.ls.length ++ blksTo D i)
def linS (D : FnD) (n : Int) (i k : Nat) : List (List UInt8) := linB D n i ++ (bhT i :: ((D.bs.getD i noB).st.take k).map stL)
theorem linL_zero (D : FnD) (n : Int) : linL D n 0 = [headT n D.p D.u] := rfl
theorem linL_next (D : FnD) (n : Int) (i : Nat) : linL D n (i + 1) = linL D n i ++ [locT i (D.ls.getD i [])] := by unfold linL; rw [locs_next]; rfl
theorem linL_all (D : FnD) (n : Int) : linL D n D.ls.length = linB D n 0 := by simp [linL, linB, blksTo]
theorem linS_zero (D : FnD) (n : Int) (i : Nat) : linS D n i 0 = linB D n i ++ [bhT i] := by simp [linS]
theorem linS_next {D : FnD} {n : Int} {i k : Nat} {el : List Value} (h : (D.bs.getD i noB).st[k]? = some el) : linS D n i (k + 1) = linS D n i k ++ [stL el] := by
  unfold linS
  rw [List.take_add_one, h]
  simp
theorem linS_all (D : FnD) (n : Int) (i : Nat) : linS D n i (D.bs.getD i noB).st.length ++ [jmL (D.bs.getD i noB)] = linB D n (i + 1) := by
  unfold linS linB
  rw [blks_next]
  simp [blkL]
structure Lim (D : FnD) : Prop where
  l0 : 0 < D.ls.length
  b0 : 0 < D.bs.length
  l : D.ls.length ≤ 16
  b : D.bs.length ≤ 24
  s : ∀ b ∈ D.bs, b.st.length ≤ 24
  o : ∀ b ∈ D.bs, b.ops.length < 9
theorem getD_or {α : Type} (l : List α) (i : Nat) (d : α) : l.getD i d ∈ l ∨ l.getD i d = d := by
  rw [List.getD_eq_getElem?_getD]
  cases h : l[i]? with
  | none => exact .inr rfl
  | some x => exact .inl (List.mem_of_getElem? h)
theorem jmL_len {D : FnD} (h : Lim D) (i : Nat) : (jmL (D.bs.getD i noB)).length ≤ 1100 := by
  have h1 : (D.bs.getD i noB).ops.length < 9 := by
    rcases getD_or D.bs i noB with k | k
    · exact h.o _ k
    · rw [k]; decide
  have := jumpT_len (pre := (D.bs.getD i noB).pre) (post := (D.bs.getD i noB).post) h1
  simp only [jmL, List.length_append, List.length_cons, List.length_nil]
  omega
theorem st_len {D : FnD} (h : Lim D) (i : Nat) : (D.bs.getD i noB).st.length ≤ 24 := by
  rcases getD_or D.bs i noB with k | k
  · exact h.s _ k
  · rw [k]; decide
theorem blkL_len {D : FnD} (h : Lim D) (i : Nat) : (blkL i (D.bs.getD i noB)).length ≤ 26 := by
  have := st_len h i
  simp only [blkL, List.length_append, List.length_cons, List.length_nil, List.length_map]
  omega
theorem blks_len {D : FnD} (h : Lim D) : ∀ i, (blksTo D i).length ≤ 26 * i
  | 0 => by simp [blksTo]
  | i + 1 => by
    have := blks_len h i
    have := blkL_len h i
    rw [blks_next, List.length_append]
    omega
theorem locs_le (D : FnD) (i : Nat) : ∀ l ∈ locsTo D i, l.length ≤ 1100 := fun l hl => by
  obtain ⟨k, _, rfl⟩ := List.mem_map.1 hl
  exact locT_len _ _
theorem blks_le {D : FnD} (h : Lim D) (i : Nat) : ∀ l ∈ blksTo D i, l.length ≤ 1100 := fun l hl => by
  obtain ⟨k, _, hl⟩ := List.mem_flatMap.1 hl
  rcases List.mem_cons.1 hl with rfl | hl
  · exact bhT_len _
  · rcases List.mem_append.1 hl with hl | hl
    · obtain ⟨s, _, rfl⟩ := List.mem_map.1 hl
      exact stL_len _
    · rw [List.mem_singleton.1 hl]; exact jmL_len h k
theorem linL_lim {D : FnD} (h : Lim D) (n : Int) {i : Nat} (hi : i ≤ D.ls.length) : (nl (linL D n i)).length ≤ 1000000 := by
  have h1 : ∀ l ∈ linL D n i, l.length ≤ 1100 := fun l hl => by
    rcases List.mem_cons.1 hl with rfl | hl
    · exact headT_len _ _ _
    · exact locs_le _ _ l hl
  have h2 := nl_len h1
  have h3 : (linL D n i).length = i + 1 := by simp [linL, locs_len]
  have := h.l
  omega
theorem linB_le {D : FnD} (h : Lim D) (n : Int) (i : Nat) : ∀ l ∈ linB D n i, l.length ≤ 1100 := fun l hl => by
  rcases List.mem_cons.1 hl with rfl | hl
  · exact headT_len _ _ _
  · rcases List.mem_append.1 hl with hl | hl
    · exact locs_le _ _ l hl
    · exact blks_le h _ l hl
theorem linB_cnt {D : FnD} (h : Lim D) (n : Int) (i : Nat) : (linB D n i).length ≤ 17 + 26 * i := by
  have := blks_len h i
  have := h.l
  simp only [linB, List.length_cons, List.length_append, locs_len]
  omega
theorem linB_lim {D : FnD} (h : Lim D) (n : Int) {i : Nat} (hi : i ≤ D.bs.length) : (nl (linB D n i)).length ≤ 1000000 := by
  have h2 := nl_len (linB_le h n i)
  have h3 := linB_cnt h n i
  have := h.b
  omega
theorem linS_lim {D : FnD} (h : Lim D) (n : Int) {i k : Nat} (hi : i < D.bs.length) : (nl (linS D n i k)).length ≤ 1000000 := by
  have h1 : ∀ l ∈ linS D n i k, l.length ≤ 1100 := fun l hl => by
    rcases List.mem_append.1 hl with hl | hl
    · exact linB_le h n i l hl
    · rcases List.mem_cons.1 hl with rfl | hl
      · exact bhT_len _
      · obtain ⟨s, _, rfl⟩ := List.mem_map.1 hl
        exact stL_len _
  have h2 := nl_len h1
  have h3 := linB_cnt h n i
  have h4 : (linS D n i k).length ≤ (linB D n i).length + 25 := by
    have := st_len h i
    simp only [linS, List.length_append, List.length_cons, List.length_map, List.length_take]
    omega
  have := h.b
  omega
theorem textF_lim {D : FnD} (h : Lim D) (n : Int) : (textF D n).length ≤ 1000000 := linB_lim h n (Nat.le_refl _)
end Go.Proofs.YtglmonlofejcgaaDoor.txt
