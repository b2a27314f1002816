/- StmtTexts: its answer at any arguments: true. Texts are numbers of strings, equality of texts and of structs is one fact. -/
import Derived.Test.YtaamdiknefodgaaDoorTexts5A
import Derived.Test.YtaamdiknefodgaaDoorAlive05
namespace Go.Proofs.YtaamdiknefodgaaDoor.stmtTexts
open Go.RowKit Go.Proofs.YtaamdiknefodgaaDoor.Am
set_option linter.unusedVariables false
set_option linter.unusedSectionVars false
set_option maxRecDepth 100000
def gs : List Gp := [(true, kSt), (true, kSt)]
abbrev far : Int × Int := (-18446744073709551615, 18446744073709551615)
def ivS : List (Int × Int) := List.replicate 4 (0, 100)
def ivI : List (Int × Int) := List.replicate 26 far
def L0 : Lf := Lf.startB gs ivS ivI
/-- the case: 0: s is none, 5: t is none, else s's kind -/
def two (k : Nat) : Bool := !(Nat.beq k 0) && !(Nat.beq k 5)
noncomputable def Lc (k : Nat) : Lf := bif two k then (L0.hi 0 k).lo 0 k else L0
def dfs : List (Nat × Nat × Nat) := (List.range 26).map fun i => (i, 26 + i, 56 + i)
def sxS (k : Nat) : List (List Nat × List Nat × List (Nat × Int)) := [([308], [309], (26, (k : Int)) :: (List.range 25).map fun i => (57 + i, 0))]
noncomputable def wantX (k : Nat) : List Nat := bif Nat.beq k 1 then 310 :: (bytesX setT ++ [311]) else bif Nat.beq k 2 then bytesX printT ++ [310] else bif Nat.beq k 4 then bytesX assertT ++ [310] else bytesX freshT ++ [310]
noncomputable def fc (k : Nat) : Facts := ⟨bif two k then [([308], wantX k, true)] else [], dfs, bif two k then sxS k else [], [], [], []⟩
def tx (i : Nat) : V := .t [.s (.xs [256 + i]), .s (.int .i64 0)]
noncomputable def rows (L : Lf) (k : Nat) : List Oracle :=
  [alive05O, cellO 51 (clL L 0 kSt) (m8 (Nat.ble 1 k))]
  ++ ((bif Nat.ble 1 k then [cellO 51 (clL L 26 kSt) (m8 (two k))] else [])
  ++ ((bif two k then [cellO 44 (clL L 0 kSt) (tx 52), cellO 44 (clL L 26 kSt) (tx 53)] else [])
  ++ ((bif Nat.beq k 1 then [cellO 33 (clL L 1 kPl) (tx 54), cellO 53 (clL L 4 kRv) (tx 55)] else [])
  ++ ((bif Nat.beq k 2 || Nat.beq k 4 then [cellO 54 (clL L 20 kOp) (tx 54)] else [])
  ++ (bif Nat.beq k 3 then [cellO 33 (clL L 25 [.i .i64] ++ [S.bool false, S.int .u8 0]) (tx 54)] else [])))))
noncomputable def good (k : Nat) : Bool := tells true (@runs ((Lc k).knowF (strsB 52 4) (fc k)) (tyOf Tryd.prog) (fnOf Tryd.prog) (orcs (rows (Lc k) k)) 20 10 13 ((argsT 0 gs).map (Lc k).nA) ⟨[], 0⟩ 0)
theorem run : (List.range 6).all good = true := by kernel_rfl

/-! the arguments, and what is behind them -/
def firstS (s : List Value) : List UInt8 := if cellI s 0 = 1 then placeT (cellI s 1) (decide (cellI s 2 = 1)) (cellI s 3) else if cellI s 0 = 3 then placeT (cellI s 25) false 0 else opT (opdAt s 20)
def strs (s t : List Value) : List (List UInt8) := [stT (stOf s), stT (stOf t), firstS s, rvT (rvAt s 4)]
def ints (s t : List Value) : List Int := (List.range 26).map fun i => cellI s i - cellI t i
def cells (s t : List Value) : List Value := s ++ (t ++ [])
def full (s t : List Value) : List Value := behind (cells s t) (strs s t) (ints s t)
structure In2 (s t : List Value) : Prop where
  s : All2 Kd.ok kSt s
  t : All2 Kd.ok kSt t
section
variable {s t : List Value} (h : In2 s t)
include h
theorem In2.ls : s.length = 26 := h.s.len.symm
theorem In2.lt : t.length = 26 := h.t.len.symm
theorem cells_len : (cells s t).length = 52 := by simp [cells, h.ls, h.lt]
theorem rho_s {i : Nat} (hi : i < 26) : rhoOf (full s t) i = cellI s i := by
  unfold full
  rw [behind_cell (by rw [cells_len h]; omega)]
  exact cellI_lt (by rw [h.ls]; exact hi)
theorem rho_t {i : Nat} (hi : i < 26) : rhoOf (full s t) (26 + i) = cellI t i := by
  unfold full
  rw [behind_cell (by rw [cells_len h]; omega)]
  exact (cellI_ge h.ls _).trans (cellI_lt (by rw [h.lt]; exact hi))
theorem rho_d {i : Nat} (hi : i < 26) : rhoOf (full s t) (56 + i) = cellI s i - cellI t i := by
  rw [show 56 + i = 52 + 4 + i by omega]
  refine behind_int (cells_len h) rfl ?_
  unfold ints
  rw [List.getElem?_map, List.getElem?_range hi]
  rfl
theorem gps : Gps gs [.agg s.toArray, .agg t.toArray] (cells s t) := ⟨s, _, rfl, ⟨h.s, .inl ⟨rfl, rfl⟩⟩, t, _, rfl, ⟨h.t, .inl ⟨rfl, rfl⟩⟩, rfl⟩
theorem sig52 : sigOf (full s t) 52 = stT (stOf s) := behind_str (j := 0) (cells_len h) rfl
theorem sig53 : sigOf (full s t) 53 = stT (stOf t) := behind_str (j := 1) (cells_len h) rfl
theorem sig54 : sigOf (full s t) 54 = firstS s := behind_str (j := 2) (cells_len h) rfl
theorem sig55 : sigOf (full s t) 55 = rvT (rvAt s 4) := behind_str (j := 3) (cells_len h) rfl
omit h in
theorem first_any : (firstS s).length ≤ 64 := by
  unfold firstS
  split
  · have := placeT_any (cellI s 1) (decide (cellI s 2 = 1)) (cellI s 3); omega
  · split
    · have := placeT_any (cellI s 25) false 0; omega
    · have := opT_any (opdAt s 20); omega
omit h in
theorem range_any {ks : List Kd} {us : List Value} (hk : All2 Kd.ok ks us) (hn : ∀ k ∈ ks, k = .b ∨ k = .i .u8 ∨ k = .i .i64) (i : Nat) : -9223372036854775808 ≤ cellI us i ∧ cellI us i ≤ 9223372036854775807 := by
  cases hi : ks[i]? with
  | none =>
    have : us[i]? = none := by rw [List.getElem?_eq_none_iff] at hi ⊢; have := hk.len; omega
    simp [cellI, this]
  | some k =>
    have h1 := ok_at hk hi
    rcases hn k (List.mem_of_getElem? hi) with rfl | rfl | rfl
    · have h1 : (0 : Int) ≤ cellI us i ∧ cellI us i ≤ 1 := h1
      omega
    · have h1 : (0 : Int) ≤ cellI us i ∧ cellI us i ≤ 255 := h1
      omega
    · exact h1
omit h in
theorem all2_map {α : Type} {R : (Int × Int) → α → Prop} {p : Int × Int} : ∀ {l : List α}, (∀ x ∈ l, R p x) → All2 R (List.replicate l.length p) l
  | [], _ => trivial
  | x :: l, h => ⟨h x (List.mem_cons_self ..), all2_map fun y hy => h y (List.mem_cons_of_mem _ hy)⟩
theorem holds0 : L0.Holds (rhoOf (full s t)) (sigOf (full s t)) := by
  have b1 := stT_any (stOf s)
  have b2 := stT_any (stOf t)
  have b3 := first_any (s := s)
  have b4 := rvT_any (rvAt s 4)
  refine Lf.startB_ok (gps h) ?_ ?_
  · refine all2_map (l := strs s t) fun l hl => ?_
    simp only [strs, List.mem_cons, List.not_mem_nil, or_false] at hl
    rcases hl with rfl | rfl | rfl | rfl <;> dsimp only <;> omega
  · have hl : (ints s t).length = 26 := by simp [ints]
    have := all2_map (R := fun p (m : Int) => p.1 ≤ m ∧ m ≤ p.2) (p := far) (l := ints s t) fun m hm => by
      have nr : ∀ k ∈ kSt, k = .b ∨ k = .i .u8 ∨ k = .i .i64 := by simp
      obtain ⟨i, _, rfl⟩ := List.mem_map.1 hm
      have := range_any h.s nr i
      have := range_any h.t nr i
      dsimp only [far]
      omega
    rw [hl] at this
    exact this
end
/-- which case it is -/
structure IsCase (s t : List Value) (k : Nat) : Prop where
  s1 : okStE.val s = Nat.ble 1 k
  t1 : k = 0 ∨ okStE.val t = two k
  k5 : k ≤ 5
  kk : two k = true → cellI s 0 = k
section
variable {s t : List Value} {k : Nat} (h : In2 s t) (c : IsCase s t k)
include h c
theorem two_ok (ht : two k = true) : 1 ≤ k ∧ k ≤ 4 := by
  have := c.k5
  unfold two at ht
  simp only [Bool.and_eq_true, Bool.not_eq_true'] at ht
  have h0 : k ≠ 0 := fun e => by subst e; exact absurd ht.1 (by decide)
  have h6 : k ≠ 5 := fun e => by subst e; exact absurd ht.2 (by decide)
  omega
theorem vals (ht : two k = true) : okStE.val s = true ∧ okStE.val t = true := by
  obtain ⟨h1, h2⟩ := two_ok h c ht
  refine ⟨?_, ?_⟩
  · rw [c.s1]
    exact Nat.ble_eq_true_of_le h1
  · rcases c.t1 with e | e
    · omega
    · rw [e]; exact ht
theorem oks (ht : two k = true) : (stOf s).Ok ∧ (stOf t).Ok := ⟨(st_val (vals h c ht).1 h.s).1, (st_val (vals h c ht).2 h.t).1⟩
omit h c in
theorem strX_add (sig : Nat → List UInt8) : ∀ a b : List Nat, strX sig (a ++ b) = strX sig a ++ strX sig b
  | [], _ => rfl
  | n :: a, b => by simp only [List.cons_append, strX, strX_add sig a b, List.append_assoc]
/-- the text is made of these -/
theorem parts (ht : two k = true) : stT (stOf s) = strX (sigOf (full s t)) (wantX k) := by
  have hk := c.kk ht
  have hk' : (stOf s).k = k := hk
  have h14 := two_ok h c ht
  have h4 : k = 1 ∨ k = 2 ∨ k = 3 ∨ k = 4 := by omega
  have s54 : ∀ l : List Nat, strX (sigOf (full s t)) (l ++ [310]) = strX (sigOf (full s t)) l ++ firstS s := fun l => by
    rw [strX_add, show (310 : Nat) = 256 + 54 from rfl, strX_one, sig54 h]
  unfold stT
  rw [hk']
  rcases h4 with rfl | rfl | rfl | rfl
  · have e : wantX 1 = [] ++ [310] ++ (bytesX setT ++ [311]) := rfl
    rw [e, strX_add, s54, strX_add, strX_bytes, show (311 : Nat) = 256 + 55 from rfl, strX_one, sig55 h]
    unfold firstS
    rw [hk]
    rfl
  · have e : wantX 2 = bytesX printT ++ [310] := rfl
    rw [e, s54, strX_bytes]
    unfold firstS
    rw [hk]
    rfl
  · have e : wantX 3 = bytesX freshT ++ [310] := rfl
    rw [e, s54, strX_bytes]
    unfold firstS
    rw [hk]
    rfl
  · have e : wantX 4 = bytesX assertT ++ [310] := rfl
    rw [e, s54, strX_bytes]
    unfold firstS
    rw [hk]
    rfl
theorem holds : (Lc k).Holds (rhoOf (full s t)) (sigOf (full s t)) := by
  unfold Lc
  cases ht : two k with
  | false => exact holds0 h
  | true =>
    have hk : rhoOf (full s t) 0 = k := (rho_s h (by decide)).trans (c.kk ht)
    exact ((holds0 h).hi (i := 0) (c := (k : Int)) (by omega)).lo (i := 0) (c := (k : Int)) (by omega)
theorem facts : FactsOk (fc k) (rhoOf (full s t)) (sigOf (full s t)) where
  sq a b r m := by
    have m : (a, b, r) ∈ (bif two k then [([308], wantX k, true)] else []) := m
    cases ht : two k <;> rw [ht] at m <;> simp only [cond_true, cond_false] at m
    · cases m
    · cases List.mem_singleton.1 m
      rw [show (308 : Nat) = 256 + 52 from rfl, strX_one, sig52 h]
      exact decide_eq_true (parts h c ht)
  df i j d m := by
    have m : (i, j, d) ∈ dfs := m
    obtain ⟨n, hn, e⟩ := List.mem_map.1 m
    have hn := List.mem_range.1 hn
    cases e
    rw [rho_s h hn, rho_t h hn, rho_d h hn]
    omega
  sx a b l m := by
    have m : (a, b, l) ∈ (bif two k then sxS k else []) := m
    cases ht : two k <;> rw [ht] at m <;> simp only [cond_true, cond_false] at m
    · cases m
    obtain ⟨k1, k2⟩ := oks h c ht
    have hk := c.kk ht
    cases List.mem_singleton.1 m
    rw [show (308 : Nat) = 256 + 52 from rfl, show (309 : Nat) = 256 + 53 from rfl, strX_one, strX_one, sig52 h, sig53 h, Bool.eq_iff_iff, decide_eq_true_eq, List.all_cons, List.all_map, Bool.and_eq_true, List.all_eq_true]
    have e1 : stT (stOf s) = stT (stOf t) ↔ ∀ i, i < 26 → cellI s i = cellI t i := ⟨fun e => (st_eq h.s h.t).1 (st_one k1 k2 e), fun e => by rw [(st_eq h.s h.t).2 e]⟩
    rw [e1]
    have hs0 : rhoOf (full s t) 26 = cellI t 0 := rho_t (i := 0) h (by decide)
    constructor
    · intro hh
      refine ⟨?_, fun i hi => ?_⟩
      · have := hh 0 (by decide)
        simp only [decide_eq_true_eq]
        rw [hs0]
        omega
      · have hi := List.mem_range.1 hi
        have := hh (i + 1) (by omega)
        simp only [Function.comp, decide_eq_true_eq]
        rw [show 57 + i = 56 + (i + 1) by omega, rho_d h (by omega)]
        omega
    · rintro ⟨h0, hh⟩ i hi
      simp only [decide_eq_true_eq] at h0
      rw [hs0] at h0
      rcases Nat.eq_zero_or_pos i with rfl | hp
      · omega
      · have := hh (i - 1) (List.mem_range.2 (by omega))
        simp only [Function.comp, decide_eq_true_eq] at this
        rw [show 57 + (i - 1) = 56 + i by omega, rho_d h hi] at this
        omega
  ct _ _ _ _ m := by cases m
  sb _ _ _ m := by cases m
  ad _ _ _ m := by cases m
end
section
variable {s t : List Value} {k : Nat} {w : World} (h : In2 s t) (c : IsCase s t k) (kt : TabOk w)
include h c kt
theorem sound : @Sound (base0 w (Lf.okF (holds h c) (lens_behind (gps h) rfl (cells_len h) rfl) (facts h c))) Tryd.prog (orcs (rows (Lc k) k)) := by
  letI b0 : Base := base0 w (Lf.okF (holds h c) (lens_behind (gps h) rfl (cells_len h) rfl) (facts h c))
  have hL : (Lc k).Holds Base.rho Base.sig := holds h c
  have e0 : full s t = s ++ (t ++ ((strs s t).map strV ++ (ints s t).map (Value.int .i64))) := by
    unfold full behind stmtTexts.cells
    simp only [List.append_assoc, List.nil_append]
  have cs : All2 (VS r0) (clL (Lc k) 0 kSt) s := clL_ok (pre := []) (us := s) (post := t ++ ((strs s t).map strV ++ (ints s t).map (Value.int .i64))) hL rfl rfl e0 rfl h.s
  have ct : All2 (VS r0) (clL (Lc k) 26 kSt) t := clL_ok (pre := s) (us := t) (post := (strs s t).map strV ++ (ints s t).map (Value.int .i64)) hL rfl rfl e0 h.ls h.t
  have kP : All2 Kd.ok kPl ((s.drop 1).take 3) := (h.s.drop 1).take 3
  have kR : All2 Kd.ok kRv ((s.drop 4).take 16) := (h.s.drop 4).take 16
  have kO : All2 Kd.ok kOp ((s.drop 20).take 5) := (h.s.drop 20).take 5
  have kN : All2 Kd.ok [.i .i64] ((s.drop 25).take 1) := (h.s.drop 25).take 1
  have cP : All2 (VS r0) (clL (Lc k) 1 kPl) ((s.drop 1).take 3) := (cs.drop 1).take 3
  have cR : All2 (VS r0) (clL (Lc k) 4 kRv) ((s.drop 4).take 16) := (cs.drop 4).take 16
  have cO : All2 (VS r0) (clL (Lc k) 20 kOp) ((s.drop 20).take 5) := (cs.drop 20).take 5
  have cN : All2 (VS r0) (clL (Lc k) 25 [.i .i64]) ((s.drop 25).take 1) := (cs.drop 25).take 1
  have tabs : ∀ w' : World, (∀ b, b < Base.nb → w'.heap[b]? = Base.g b) → TabOk w' := fun w' hw => kt.all hw
  have tx_ok : ∀ (r : Ren) (i : Nat) (l : List UInt8), Base.sig i = l → VV r (tx i) (vS2 l) := fun r i l e => ⟨[_, _], rfl, by
    refine ⟨?_, rfl, trivial⟩
    show Value.string _ = .string ⟨(strX Base.sig [256 + i]).toArray⟩
    rw [strX_one, e]⟩
  have mem_if : ∀ {b : Bool} {l : List Oracle} {O : Oracle}, O ∈ (bif b then l else []) → b = true ∧ O ∈ l := fun {b l O} hm => by
    cases b
    · cases hm
    · exact ⟨rfl, hm⟩
  refine sound_orcs fun O hO => ?_
  unfold rows at hO
  simp only [List.mem_append] at hO
  rcases hO with hO | hO | hO | hO | hO | hO
  · simp only [List.mem_cons, List.not_mem_nil, or_false] at hO
    rcases hO with rfl | rfl
    · exact sound_alive05 kt _
    · refine sound_cell ⟨_, Tryd.func51, by kernel_rfl, by kernel_rfl⟩ (ones_T _ kSt 0 rfl) cs (u := v8 (Nat.ble 1 k)) (fun _ => rfl) fun w' _ => ?_
      rw [← c.s1]
      exact stP_tests s h.s w' trivial
  · obtain ⟨hb, hO⟩ := mem_if hO
    obtain rfl := List.mem_singleton.1 hO
    have := Nat.le_of_ble_eq_true hb
    refine sound_cell ⟨_, Tryd.func51, by kernel_rfl, by kernel_rfl⟩ (ones_T _ kSt 26 rfl) ct (u := v8 (two k)) (fun _ => rfl) fun w' _ => ?_
    have ev : two k = okStE.val t := c.t1.elim (fun e => by omega) Eq.symm
    rw [ev]
    exact stP_tests t h.t w' trivial
  · obtain ⟨ht, hO⟩ := mem_if hO
    obtain ⟨h1, h2⟩ := vals h c ht
    simp only [List.mem_cons, List.not_mem_nil, or_false] at hO
    rcases hO with rfl | rfl
    · exact sound_cell ⟨_, Tryd.func44, by kernel_rfl, by kernel_rfl⟩ (ones_T _ kSt 0 rfl) cs (fun q => tx_ok q 52 _ (sig52 h)) fun w' hw => tstA_texts s h.s h1 w' (tabs w' hw)
    · exact sound_cell ⟨_, Tryd.func44, by kernel_rfl, by kernel_rfl⟩ (ones_T _ kSt 26 rfl) ct (fun q => tx_ok q 53 _ (sig53 h)) fun w' hw => tstA_texts t h.t h2 w' (tabs w' hw)
  · obtain ⟨hb, hO⟩ := mem_if hO
    have h1 := Nat.eq_of_beq_eq_true hb
    have ht : two k = true := by rw [h1]; rfl
    have hk := c.kk ht
    rw [h1] at hk
    have hk : cellI s 0 = 1 := hk
    have hp : (okPlE 1).val s = true ∧ (okRvE 4).val s = true := by
      rcases (st_val (vals h c ht).1 h.s).2 with ⟨_, e⟩ | ⟨e, _⟩ | e
      · exact e
      · omega
      · omega
    simp only [List.mem_cons, List.not_mem_nil, or_false] at hO
    rcases hO with rfl | rfl
    · have hf : firstS s = placeT (cellI ((s.drop 1).take 3) 0) (decide (cellI ((s.drop 1).take 3) 1 = 1)) (cellI ((s.drop 1).take 3) 2) := by
        unfold firstS
        rw [cellI_sub (by decide), cellI_sub (by decide), cellI_sub (by decide), if_pos hk]
      exact sound_cell ⟨_, Tryd.func33, by kernel_rfl, by kernel_rfl⟩ (ones_T _ kPl 1 rfl) cP (fun q => tx_ok q 54 _ ((sig54 h).trans hf)) fun w' hw => tplA_texts _ kP (by rw [pl_at]; exact hp.1) w' (tabs w' hw)
    · have hr : rvT (rvAt s 4) = rvT (rvAt ((s.drop 4).take 16) 0) := by
        simp only [rvAt, opdAt, Nat.zero_add, Nat.reduceAdd, cellI_sub (us := s) (n := 4) (m := 16) (show 0 < 16 by decide), cellI_sub (us := s) (n := 4) (m := 16) (show 1 < 16 by decide), cellI_sub (us := s) (n := 4) (m := 16) (show 2 < 16 by decide), cellI_sub (us := s) (n := 4) (m := 16) (show 3 < 16 by decide), cellI_sub (us := s) (n := 4) (m := 16) (show 4 < 16 by decide), cellI_sub (us := s) (n := 4) (m := 16) (show 5 < 16 by decide),
          cellI_sub (us := s) (n := 4) (m := 16) (show 6 < 16 by decide), cellI_sub (us := s) (n := 4) (m := 16) (show 7 < 16 by decide), cellI_sub (us := s) (n := 4) (m := 16) (show 8 < 16 by decide), cellI_sub (us := s) (n := 4) (m := 16) (show 9 < 16 by decide), cellI_sub (us := s) (n := 4) (m := 16) (show 10 < 16 by decide), cellI_sub (us := s) (n := 4) (m := 16) (show 11 < 16 by decide),
          cellI_sub (us := s) (n := 4) (m := 16) (show 12 < 16 by decide), cellI_sub (us := s) (n := 4) (m := 16) (show 13 < 16 by decide), cellI_sub (us := s) (n := 4) (m := 16) (show 14 < 16 by decide), cellI_sub (us := s) (n := 4) (m := 16) (show 15 < 16 by decide)]
      exact sound_cell ⟨_, Tryd.func53, by kernel_rfl, by kernel_rfl⟩ (ones_T _ kRv 4 rfl) cR (fun q => tx_ok q 55 _ ((sig55 h).trans hr)) fun w' hw => trvA_texts _ kR (by rw [rv_at]; exact hp.2) w' (tabs w' hw)
  · obtain ⟨hb, hO⟩ := mem_if hO
    obtain rfl := List.mem_singleton.1 hO
    simp only [Bool.or_eq_true] at hb
    have h24 : k = 2 ∨ k = 4 := hb.imp Nat.eq_of_beq_eq_true Nat.eq_of_beq_eq_true
    have ht : two k = true := by rcases h24 with rfl | rfl <;> rfl
    have hk := c.kk ht
    have hp : (okOpE 20).val s = true := by
      rcases (st_val (vals h c ht).1 h.s).2 with ⟨e, _⟩ | ⟨_, e⟩ | e
      · omega
      · exact e
      · omega
    have hf : firstS s = opT (opdAt ((s.drop 20).take 5) 0) := by
      unfold firstS
      rw [opd_sub, if_neg (by omega), if_neg (by omega)]
    exact sound_cell ⟨_, Tryd.func54, by kernel_rfl, by kernel_rfl⟩ (ones_T _ kOp 20 rfl) cO (fun q => tx_ok q 54 _ ((sig54 h).trans hf)) fun w' hw => topA_texts _ kO (by rw [op_at]; exact hp) w' (tabs w' hw)
  · obtain ⟨hb, hO⟩ := mem_if hO
    obtain rfl := List.mem_singleton.1 hO
    have h3 := Nat.eq_of_beq_eq_true hb
    have ht : two k = true := by rw [h3]; rfl
    have hk := c.kk ht
    have hn : 0 ≤ cellI s 25 ∧ cellI s 25 < 16 := by
      rcases (oks h c ht).1 with ⟨e, _⟩ | ⟨e, _⟩ | ⟨_, _, _, _, _, _, e⟩
      · have e : cellI s 0 = 1 := e
        omega
      · have e : cellI s 0 = 2 ∨ cellI s 0 = 4 := e
        omega
      · exact e
    obtain ⟨v, hv⟩ : ∃ v, (s.drop 25).take 1 = [v] := by
      have hl : ((s.drop 25).take 1).length = 1 := kN.len.symm
      match (s.drop 25).take 1, hl with
      | [v], _ => exact ⟨v, rfl⟩
    have hv25 : codeI v = cellI s 25 := by
      have := cellI_sub (us := s) (n := 25) (m := 1) (i := 0) (by decide)
      rw [hv] at this
      exact this
    rw [hv] at kN cN
    have kq : All2 Kd.ok kPl [v, .bool false, .int .u8 0] := ⟨kN.1, ⟨false, rfl⟩, ⟨0, rfl, by decide, by decide⟩, trivial⟩
    have c2 : All2 (VS r0) [S.bool false, S.int .u8 0] [Value.bool false, Value.int .u8 0] := ⟨rfl, rfl, trivial⟩
    have cq : All2 (VS r0) (clL (Lc k) 25 [.i .i64] ++ [S.bool false, S.int .u8 0]) [v, .bool false, .int .u8 0] := All2.app (xs := clL (Lc k) 25 [.i .i64]) (ys := [v]) cN c2
    have hone : (clL (Lc k) 25 [.i .i64] ++ [S.bool false, S.int .u8 0]).all S.one = true := by
      rw [List.all_append, show (clL (Lc k) 25 [.i .i64]).all S.one = true from ones_T _ [.i .i64] 25 rfl]
      rfl
    have hc0 : cellI [v, .bool false, .int .u8 0] 0 = cellI s 25 := hv25
    have hf : firstS s = placeT (cellI [v, .bool false, .int .u8 0] 0) (decide (cellI [v, .bool false, .int .u8 0] 1 = 1)) (cellI [v, .bool false, .int .u8 0] 2) := by
      unfold firstS
      rw [hc0, if_neg (by omega), if_pos (by omega)]
      rfl
    have hval : (okPlE 0).val [v, .bool false, .int .u8 0] = true := by
      have e : (okPlE 0).val [v, .bool false, .int .u8 0] = (!decide (cellI [v, .bool false, .int .u8 0] 0 < 0) && (decide (cellI [v, .bool false, .int .u8 0] 0 < 16) && decide (cellI [v, .bool false, .int .u8 0] (0 + 2) < 3))) := rfl
      rw [e, hc0]
      have : cellI [v, .bool false, .int .u8 0] (0 + 2) = 0 := rfl
      rw [this]
      simp
      omega
    exact sound_cell ⟨_, Tryd.func33, by kernel_rfl, by kernel_rfl⟩ hone cq (fun q => tx_ok q 54 _ ((sig54 h).trans hf)) fun w' hw => tplA_texts _ kq hval w' (tabs w' hw)
theorem walk0 : Calls Tryd.prog 13 #[.agg s.toArray, .agg t.toArray] w fun e w' => e = .returned (.bool true) ∧ Below w.heap.size w w' := by
  have hg : good k = true := List.all_eq_true.1 run k (List.mem_range.2 (by have := c.k5; omega))
  exact law_facts (vs := [.agg s.toArray, .agg t.toArray]) kt.size (gps h) rfl (cells_len h) rfl (holds h c) (facts h c) _ (sound_runs _ (sound h c kt) 20 10) hg
end
theorem some_case {s t : List Value} (h : In2 s t) : ∃ k, IsCase s t k := by
  cases g1 : okStE.val s with
  | false => exact ⟨0, g1, .inl rfl, by decide, fun e => by cases e⟩
  | true =>
    cases g2 : okStE.val t with
    | false => exact ⟨5, g1, .inr g2, by decide, fun e => by cases e⟩
    | true =>
      rcases (st_val g1 h.s).2 with ⟨e, _⟩ | ⟨e | e, _⟩ | e
      · exact ⟨1, g1, .inr g2, by decide, fun _ => e⟩
      · exact ⟨2, g1, .inr g2, by decide, fun _ => e⟩
      · exact ⟨4, g1, .inr g2, by decide, fun _ => e⟩
      · exact ⟨3, g1, .inr g2, by decide, fun _ => e⟩
theorem walk {w : World} (k : TabOk w) {vs cs : List Value} (hg : Gps gs vs cs) : Calls Tryd.prog 13 vs.toArray w fun e w' => e = .returned (.bool true) ∧ Below w.heap.size w w' := by
  have one : ∀ {ks : List Kd} {v : Value} {us : List Value}, GpOk (true, ks) v us → All2 Kd.ok ks us ∧ v = .agg us.toArray := fun {ks v us} h => by
    obtain ⟨h1, h2⟩ := h
    rcases h2 with ⟨_, e⟩ | ⟨e, _⟩
    · exact ⟨h1, e⟩
    · cases e
  match vs, hg with
  | [v0, v1], ⟨s, _, _, h0, t, _, _, h1, _⟩ =>
    obtain ⟨k0, rfl⟩ := one h0
    obtain ⟨k1, rfl⟩ := one h1
    have h : In2 s t := ⟨k0, k1⟩
    obtain ⟨n, c⟩ := some_case h
    exact walk0 h c k
end Go.Proofs.YtaamdiknefodgaaDoor.stmtTexts
