/- ValueTexts: its answer at any arguments: true. Texts are numbers of strings, equality of texts and of structs is one fact. -/
import Derived.Test.YtncbkjokabgkbaaDoorRvs4
import Derived.Test.YtncbkjokabgkbaaDoorAlive04
namespace Go.Proofs.YtncbkjokabgkbaaDoor.valueTexts
open Go.RowKit Go.Proofs.YtncbkjokabgkbaaDoor.Am
set_option linter.unusedVariables false
set_option linter.unusedSectionVars false
set_option maxRecDepth 100000
def gs : List Gp := [(true, kRv), (true, kRv), (true, kOp), (true, kOp)]
abbrev far : Int × Int := (-18446744073709551615, 18446744073709551615)
def ivS : List (Int × Int) := List.replicate 5 (0, 64)
def ivI : List (Int × Int) := (-64, 64) :: (1, 65) :: List.replicate 21 far
def L0 : Lf := Lf.startB gs ivS ivI
def two (rk : Nat) : Bool := !(Nat.beq rk 0) && !(Nat.beq rk 6)
/-- the case: o, p (0: o is none, 1: p is none, 2: both are); r, s (0: r is none, 6: s is none, else r's kind) -/
noncomputable def Lc (rk : Nat) : Lf := bif two rk then (bif Nat.beq rk 1 then ((L0.hi 0 rk).lo 0 rk) else ((L0.hi 0 rk).lo 0 rk).less 46 42) else L0
def dfs : List (Nat × Nat × Nat) := (List.range 16).map (fun i => (i, 16 + i, 49 + i)) ++ (List.range 5).map fun i => (32 + i, 37 + i, 65 + i)
def sxO : List (List Nat × List Nat × List (Nat × Int)) := [([300], [301], (List.range 5).map fun i => (65 + i, 0))]
def sxR (k : Nat) : List (List Nat × List Nat × List (Nat × Int)) := [([298], [299], (16, (k : Int)) :: (List.range 15).map fun i => (50 + i, 0))]
def ctR (k : Nat) : List (List Nat × N × Option N × List Nat) :=
  bif Nat.beq k 1 then [([298], .c 0, some (.x 42), [298])] else bif Nat.beq k 2 then [([298], .c 0, some (.x 46), [302])] else bif Nat.beq k 3 then [([298], .c 1, some (.x 48), [302])] else [([298], .x 47, none, [302])]
def fc (ov rk : Nat) : Facts := ⟨[], dfs, (bif Nat.beq ov 2 then sxO else []) ++ (bif two rk then sxR rk else []), bif two rk then ctR rk else [], [(42, 46, 47)], [(46, 1, 48)]⟩
noncomputable def cl (L : Lf) (i : Nat) (ks : List Kd) : List S := (cellsT i ks).map L.nS
def tx (i : Nat) : V := .t [.s (.xs [256 + i]), .s (.int .i64 0)]
noncomputable def rows (L : Lf) (ov rk : Nat) : List Oracle :=
  [alive04O, cellO 29 (cl L 32 kOp) (m8 (Nat.ble 1 ov)), cellO 47 (cl L 0 kRv) (m8 (Nat.ble 1 rk))]
  ++ ((bif Nat.ble 1 ov then [cellO 29 (cl L 37 kOp) (m8 (Nat.beq ov 2))] else [])
  ++ ((bif Nat.ble 1 rk then [cellO 47 (cl L 16 kRv) (m8 (two rk))] else [])
  ++ ((bif Nat.beq ov 2 then [cellO 26 (cl L 32 kOp) (tx 44), cellO 26 (cl L 37 kOp) (tx 45)] else [])
  ++ ((bif two rk then [cellO 40 (cl L 0 kRv) (tx 42), cellO 40 (cl L 16 kRv) (tx 43)] else [])
  ++ ((bif two rk && Nat.ble rk 3 then [cellO 26 (cl L 3 kOp) (tx (bif Nat.beq rk 1 then 42 else 46))] else [])
  ++ (bif two rk && Nat.ble 4 rk then [cellO 22 (cl L 13 kPl) (tx 46)] else []))))))
noncomputable def good (c : Nat × Nat) : Bool := tells true (@runs ((Lc c.2).knowF (strsB 42 5) (fc c.1 c.2)) (tyOf Tryd.prog) (fnOf Tryd.prog) (orcs (rows (Lc c.2) c.1 c.2)) 20 10 14 ((argsT 0 gs).map (Lc c.2).nA) ⟨[], 0⟩ 0)
def cases : List (Nat × Nat) := (List.range 3).flatMap fun a => (List.range 7).map fun b => (a, b)
theorem run : cases.all good = true := by kernel_rfl

/-! the arguments, and what is behind them -/
def hasPl (r : List Value) : Bool := decide (cellI r 0 = 4) || decide (cellI r 0 = 5)
def firstT (r : List Value) : List UInt8 := bif hasPl r then placeT (cellI r 13) (decide (cellI r 14 = 1)) (cellI r 15) else opT (opdAt r 3)
def strs (r s o p : List Value) : List (List UInt8) := [rvT (rvAt r 0), rvT (rvAt s 0), opT (opdAt o 0), opT (opdAt p 0), firstT r]
def ints (r s o p : List Value) : List Int := ((rvT (rvAt r 0)).length - (firstT r).length) :: (1 + (firstT r).length) :: ((List.range 16).map (fun i => cellI r i - cellI s i) ++ (List.range 5).map fun i => cellI o i - cellI p i)
def cells (r s o p : List Value) : List Value := r ++ (s ++ (o ++ (p ++ [])))
def full (r s o p : List Value) : List Value := behind (cells r s o p) (strs r s o p) (ints r s o p)
/-- the arguments are of their kinds -/
structure In4 (r s o p : List Value) : Prop where
  r : All2 Kd.ok kRv r
  s : All2 Kd.ok kRv s
  o : All2 Kd.ok kOp o
  p : All2 Kd.ok kOp p
section
variable {r s o p : List Value} (h : In4 r s o p)
include h
theorem In4.lr : r.length = 16 := h.r.len.symm
theorem In4.ls : s.length = 16 := h.s.len.symm
theorem In4.lo : o.length = 5 := h.o.len.symm
theorem In4.lp : p.length = 5 := h.p.len.symm
theorem cells_len : (cells r s o p).length = 42 := by simp [cells, h.lr, h.ls, h.lo, h.lp]
theorem rho_r {i : Nat} (hi : i < 16) : rhoOf (full r s o p) i = cellI r i := by
  unfold full
  rw [behind_cell (by rw [cells_len h]; omega)]
  exact cellI_lt (by rw [h.lr]; exact hi)
theorem rho_s {i : Nat} (hi : i < 16) : rhoOf (full r s o p) (16 + i) = cellI s i := by
  unfold full
  rw [behind_cell (by rw [cells_len h]; omega)]
  exact (cellI_ge h.lr _).trans (cellI_lt (by rw [h.ls]; exact hi))
theorem rho_o {i : Nat} (hi : i < 5) : rhoOf (full r s o p) (32 + i) = cellI o i := by
  unfold full
  rw [behind_cell (by rw [cells_len h]; omega), show 32 + i = 16 + (16 + i) by omega]
  exact (cellI_ge h.lr _).trans ((cellI_ge h.ls _).trans (cellI_lt (by rw [h.lo]; exact hi)))
theorem rho_p {i : Nat} (hi : i < 5) : rhoOf (full r s o p) (37 + i) = cellI p i := by
  unfold full
  rw [behind_cell (by rw [cells_len h]; omega), show 37 + i = 16 + (16 + (5 + i)) by omega]
  exact (cellI_ge h.lr _).trans ((cellI_ge h.ls _).trans ((cellI_ge h.lo _).trans (cellI_lt (by rw [h.lp]; exact hi))))
theorem rho_d {i : Nat} (hi : i < 16) : rhoOf (full r s o p) (49 + i) = cellI r i - cellI s i := by
  rw [show 49 + i = 42 + 5 + (2 + i) by omega]
  refine behind_int (cells_len h) rfl ?_
  unfold ints
  rw [show 2 + i = i + 1 + 1 by omega, List.getElem?_cons_succ, List.getElem?_cons_succ, List.getElem?_append_left (by simpa using hi), List.getElem?_map, List.getElem?_range hi]
  rfl
theorem rho_e {i : Nat} (hi : i < 5) : rhoOf (full r s o p) (65 + i) = cellI o i - cellI p i := by
  rw [show 65 + i = 42 + 5 + (18 + i) by omega]
  refine behind_int (cells_len h) rfl ?_
  unfold ints
  rw [show 18 + i = 16 + i + 1 + 1 by omega, List.getElem?_cons_succ, List.getElem?_cons_succ, List.getElem?_append_right (by simp), List.getElem?_map, show 16 + i - ((List.range 16).map fun i => cellI r i - cellI s i).length = i by simp, List.getElem?_range hi]
  rfl
theorem gps : Gps gs [.agg r.toArray, .agg s.toArray, .agg o.toArray, .agg p.toArray] (cells r s o p) :=
  ⟨r, _, rfl, ⟨h.r, .inl ⟨rfl, rfl⟩⟩, s, _, rfl, ⟨h.s, .inl ⟨rfl, rfl⟩⟩, o, _, rfl, ⟨h.o, .inl ⟨rfl, rfl⟩⟩, p, _, rfl, ⟨h.p, .inl ⟨rfl, rfl⟩⟩, rfl⟩
theorem sig42 : sigOf (full r s o p) 42 = rvT (rvAt r 0) := behind_str (j := 0) (cells_len h) rfl
theorem sig43 : sigOf (full r s o p) 43 = rvT (rvAt s 0) := behind_str (j := 1) (cells_len h) rfl
theorem sig44 : sigOf (full r s o p) 44 = opT (opdAt o 0) := behind_str (j := 2) (cells_len h) rfl
theorem sig45 : sigOf (full r s o p) 45 = opT (opdAt p 0) := behind_str (j := 3) (cells_len h) rfl
theorem sig46 : sigOf (full r s o p) 46 = firstT r := behind_str (j := 4) (cells_len h) rfl
theorem rho42 : rhoOf (full r s o p) 42 = (rvT (rvAt r 0)).length := behind_len (j := 0) (cells_len h) rfl
theorem rho46 : rhoOf (full r s o p) 46 = (firstT r).length := behind_len (j := 4) (cells_len h) rfl
theorem rho47 : rhoOf (full r s o p) 47 = (rvT (rvAt r 0)).length - (firstT r).length := behind_int (j := 0) (cells_len h) rfl rfl
theorem rho48 : rhoOf (full r s o p) 48 = 1 + (firstT r).length := behind_int (j := 1) (cells_len h) rfl rfl
omit h in
theorem first_any : (firstT r).length ≤ 64 := by
  unfold firstT
  cases hasPl r
  · have := opT_any (opdAt r 3)
    simp only [cond_false]
    omega
  · have := placeT_any (cellI r 13) (decide (cellI r 14 = 1)) (cellI r 15)
    simp only [cond_true]
    omega
omit h in
theorem range_any {ks : List Kd} {us : List Value} (hk : All2 Kd.ok ks us) (hn : ∀ k ∈ ks, k = .b ∨ k = .i .u8 ∨ k = .i .i64) (i : Nat) : -9223372036854775808 ≤ cellI us i ∧ cellI us i ≤ 9223372036854775807 := by
  cases hi : ks[i]? with
  | none =>
    have : us[i]? = none := by rw [List.getElem?_eq_none_iff] at hi ⊢; have := hk.len; omega
    simp [cellI, this]
  | some k =>
    have h1 := ok_at hk hi
    rcases hn k (List.mem_of_getElem? hi) with rfl | rfl | rfl
    · have h1 : (0 : Int) ≤ cellI us i ∧ cellI us i ≤ 1 := h1
      omega
    · have h1 : (0 : Int) ≤ cellI us i ∧ cellI us i ≤ 255 := h1
      omega
    · exact h1
omit h in
theorem all2_map {α : Type} {R : (Int × Int) → α → Prop} {p : Int × Int} : ∀ {l : List α}, (∀ x ∈ l, R p x) → All2 R (List.replicate l.length p) l
  | [], _ => trivial
  | x :: l, h => ⟨h x (List.mem_cons_self ..), all2_map fun y hy => h y (List.mem_cons_of_mem _ hy)⟩
theorem holds0 : L0.Holds (rhoOf (full r s o p)) (sigOf (full r s o p)) := by
  have b1 := rvT_any (rvAt r 0)
  have b2 := rvT_any (rvAt s 0)
  have b3 := opT_any (opdAt o 0)
  have b4 := opT_any (opdAt p 0)
  have b5 := first_any (r := r)
  refine Lf.startB_ok (gps h) ?_ ?_
  · refine all2_map (l := strs r s o p) fun l hl => ?_
    simp only [strs, List.mem_cons, List.not_mem_nil, or_false] at hl
    rcases hl with rfl | rfl | rfl | rfl | rfl <;> dsimp only <;> omega
  · refine ⟨by dsimp only; omega, by dsimp only; omega, ?_⟩
    have hl : ((List.range 16).map (fun i => cellI r i - cellI s i) ++ (List.range 5).map fun i => cellI o i - cellI p i).length = 21 := by simp
    have := all2_map (R := fun p (m : Int) => p.1 ≤ m ∧ m ≤ p.2) (p := far) (l := (List.range 16).map (fun i => cellI r i - cellI s i) ++ (List.range 5).map fun i => cellI o i - cellI p i) fun m hm => by
      have nr : ∀ k ∈ kRv, k = .b ∨ k = .i .u8 ∨ k = .i .i64 := by simp
      have no : ∀ k ∈ kOp, k = .b ∨ k = .i .u8 ∨ k = .i .i64 := by simp
      rcases List.mem_append.1 hm with hm | hm <;> obtain ⟨i, _, rfl⟩ := List.mem_map.1 hm
      · have := range_any h.r nr i
        have := range_any h.s nr i
        dsimp only [far]
        omega
      · have := range_any h.o no i
        have := range_any h.p no i
        dsimp only [far]
        omega
    rw [hl] at this
    exact this
end
/-- which case it is -/
structure IsCase (r s o p : List Value) (ov rk : Nat) : Prop where
  o1 : (okOpE 0).val o = Nat.ble 1 ov
  p1 : ov = 0 ∨ (okOpE 0).val p = Nat.beq ov 2
  ov2 : ov ≤ 2
  r1 : (okRvE 0).val r = Nat.ble 1 rk
  s1 : rk = 0 ∨ (okRvE 0).val s = two rk
  rk6 : rk ≤ 6
  k : two rk = true → cellI r 0 = rk
section
variable {r s o p : List Value} {ov rk : Nat} (h : In4 r s o p) (c : IsCase r s o p ov rk)
include h c
theorem two_ok (ht : two rk = true) : 1 ≤ rk ∧ rk ≤ 5 := by
  have := c.rk6
  unfold two at ht
  simp only [Bool.and_eq_true, Bool.not_eq_true'] at ht
  have h0 : rk ≠ 0 := fun e => by subst e; exact absurd ht.1 (by decide)
  have h6 : rk ≠ 6 := fun e => by subst e; exact absurd ht.2 (by decide)
  omega
theorem r_val (ht : two rk = true) : (okRvE 0).val r = true ∧ (okRvE 0).val s = true := by
  obtain ⟨h1, h2⟩ := two_ok h c ht
  refine ⟨?_, ?_⟩
  · rw [c.r1]
    exact Nat.ble_eq_true_of_le h1
  · rcases c.s1 with e | e
    · omega
    · rw [e]; exact ht
theorem r_Ok (ht : two rk = true) : (rvAt r 0).Ok ∧ (rvAt s 0).Ok := ⟨rv_val (r_val h c ht).1 (rvR_ok h.r), rv_val (r_val h c ht).2 (rvR_ok h.s)⟩
theorem o_val (ht : ov = 2) : (okOpE 0).val o = true ∧ (okOpE 0).val p = true := by
  subst ht
  refine ⟨c.o1, ?_⟩
  rcases c.p1 with e | e
  · cases e
  · exact e
theorem o_Ok (ht : ov = 2) : (opdAt o 0).Ok ∧ (opdAt p 0).Ok := ⟨op_val (o_val h c ht).1 (ok_i64 h.o rfl) (ok_u8 h.o rfl), op_val (o_val h c ht).2 (ok_i64 h.p rfl) (ok_u8 h.p rfl)⟩
/-- the text begins with its first part, or ends with it -/
theorem parts (ht : two rk = true) :
    (rk = 1 ∧ rvT (rvAt r 0) = firstT r) ∨ (rk = 2 ∧ ∃ t, t ≠ [] ∧ rvT (rvAt r 0) = firstT r ++ t) ∨ (rk = 3 ∧ ∃ t, rvT (rvAt r 0) = 40 :: (firstT r ++ t)) ∨ ((rk = 4 ∨ rk = 5) ∧ ∃ t, t ≠ [] ∧ rvT (rvAt r 0) = t ++ firstT r) := by
  have hk := c.k ht
  have hk' : (rvAt r 0).k = rk := hk
  have := two_ok h c ht
  have h5 : rk = 1 ∨ rk = 2 ∨ rk = 3 ∨ rk = 4 ∨ rk = 5 := by omega
  unfold firstT hasPl rvT
  rw [hk', hk]
  rcases h5 with rfl | rfl | rfl | rfl | rfl
  · exact .inl ⟨rfl, rfl⟩
  · exact .inr (.inl ⟨rfl, _, by simp, rfl⟩)
  · exact .inr (.inr (.inl ⟨rfl, _, rfl⟩))
  · refine .inr (.inr (.inr ⟨.inl rfl, borT 4 (rvAt r 0).bo, ?_, rfl⟩))
    obtain ⟨q, hq⟩ := bor_head 4 (rvAt r 0).bo
    rw [hq]
    simp
  · refine .inr (.inr (.inr ⟨.inr rfl, borT 5 (rvAt r 0).bo, ?_, rfl⟩))
    obtain ⟨q, hq⟩ := bor_head 5 (rvAt r 0).bo
    rw [hq]
    simp
theorem holds : (Lc rk).Holds (rhoOf (full r s o p)) (sigOf (full r s o p)) := by
  unfold Lc
  cases ht : two rk with
  | false => exact holds0 h
  | true =>
    have hk : rhoOf (full r s o p) 0 = rk := (rho_r h (by decide)).trans (c.k ht)
    have h1 : ((L0.hi 0 rk).lo 0 rk).Holds (rhoOf (full r s o p)) (sigOf (full r s o p)) := ((holds0 h).hi (by omega)).lo (by omega)
    simp only [cond_true]
    cases h2 : Nat.beq rk 1 with
    | true => exact h1
    | false =>
      simp only [cond_false]
      refine ⟨h1.iv, h1.ne, fun i j m => ?_, h1.to, h1.st, h1.sn, h1.cf⟩
      rcases List.mem_cons.1 m with m | m
      · cases m
        rw [rho42 h, rho46 h]
        have : (firstT r).length < (rvT (rvAt r 0)).length := by
          rcases parts h c ht with ⟨rfl, _⟩ | ⟨_, t, hn, e⟩ | ⟨_, t, e⟩ | ⟨_, t, hn, e⟩
          · cases h2
          · rw [e, List.length_append]
            have := List.length_pos_iff.2 hn
            omega
          · rw [e, List.length_cons, List.length_append]
            omega
          · rw [e, List.length_append]
            have := List.length_pos_iff.2 hn
            omega
        omega
      · exact h1.lt i j m
theorem facts : FactsOk (fc ov rk) (rhoOf (full r s o p)) (sigOf (full r s o p)) where
  sq _ _ _ m := by cases m
  df i j d m := by
    have m : (i, j, d) ∈ dfs := m
    unfold dfs at m
    rcases List.mem_append.1 m with m | m <;> obtain ⟨k, hk, e⟩ := List.mem_map.1 m <;> have hk := List.mem_range.1 hk <;> cases e
    · rw [rho_r h hk, rho_s h hk, rho_d h hk]
      omega
    · rw [rho_o h hk, rho_p h hk, rho_e h hk]
      omega
  sx a b l m := by
    have m : (a, b, l) ∈ (bif Nat.beq ov 2 then sxO else []) ++ (bif two rk then sxR rk else []) := m
    rcases List.mem_append.1 m with m | m
    · cases hv : Nat.beq ov 2 <;> rw [hv] at m <;> simp only [cond_true, cond_false] at m
      · cases m
      · have ho := Nat.eq_of_beq_eq_true hv
        obtain ⟨k1, k2⟩ := o_Ok h c ho
        have m := List.mem_singleton.1 m
        cases m
        rw [show (300 : Nat) = 256 + 44 from rfl, show (301 : Nat) = 256 + 45 from rfl, strX_one, strX_one, sig44 h, sig45 h, Bool.eq_iff_iff, decide_eq_true_eq, List.all_map, List.all_eq_true]
        have e1 : opT (opdAt o 0) = opT (opdAt p 0) ↔ ∀ i, i < 5 → cellI o i = cellI p i := ⟨fun e => (op_eq h.o h.p).1 (op_one k1 k2 e), fun e => by rw [(op_eq h.o h.p).2 e]⟩
        rw [e1]
        constructor
        · intro hh i hi
          have hi := List.mem_range.1 hi
          have := hh i hi
          simp only [Function.comp, decide_eq_true_eq]
          rw [rho_e h hi]
          omega
        · intro hh i hi
          have := hh i (List.mem_range.2 hi)
          simp only [Function.comp, decide_eq_true_eq] at this
          rw [rho_e h hi] at this
          omega
    · cases ht : two rk <;> rw [ht] at m <;> simp only [cond_true, cond_false] at m
      · cases m
      · obtain ⟨k1, k2⟩ := r_Ok h c ht
        have hk := c.k ht
        have m := List.mem_singleton.1 m
        cases m
        rw [show (298 : Nat) = 256 + 42 from rfl, show (299 : Nat) = 256 + 43 from rfl, strX_one, strX_one, sig42 h, sig43 h, Bool.eq_iff_iff, decide_eq_true_eq, List.all_cons, List.all_map, Bool.and_eq_true, List.all_eq_true]
        have e1 : rvT (rvAt r 0) = rvT (rvAt s 0) ↔ ∀ i, i < 16 → cellI r i = cellI s i := ⟨fun e => (rv_eq h.r h.s).1 (rv_one k1 k2 e), fun e => by rw [(rv_eq h.r h.s).2 e]⟩
        rw [e1]
        have hs0 : rhoOf (full r s o p) 16 = cellI s 0 := rho_s (i := 0) h (by decide)
        constructor
        · intro hh
          refine ⟨?_, fun i hi => ?_⟩
          · have := hh 0 (by decide)
            simp only [decide_eq_true_eq]
            rw [hs0]
            omega
          · have hi := List.mem_range.1 hi
            have := hh (i + 1) (by omega)
            simp only [Function.comp, decide_eq_true_eq]
            rw [show 50 + i = 49 + (i + 1) by omega, rho_d h (by omega)]
            omega
        · rintro ⟨h0, hh⟩ i hi
          simp only [decide_eq_true_eq] at h0
          rw [hs0] at h0
          rcases Nat.eq_zero_or_pos i with rfl | hp
          · omega
          · have := hh (i - 1) (List.mem_range.2 (by omega))
            simp only [Function.comp, decide_eq_true_eq] at this
            rw [show 50 + (i - 1) = 49 + i by omega, rho_d h hi] at this
            omega
  ct l a b m hm := by
    have hm : (l, a, b, m) ∈ (bif two rk then ctR rk else []) := hm
    cases ht : two rk <;> rw [ht] at hm <;> simp only [cond_true, cond_false] at hm
    · cases hm
    rcases parts h c ht with ⟨rfl, e⟩ | ⟨rfl, t, _, e⟩ | ⟨rfl, t, e⟩ | ⟨hk, t, _, e⟩
    · have hm := List.mem_singleton.1 hm
      cases hm
      rw [show (298 : Nat) = 256 + 42 from rfl, strX_one, sig42 h]
      refine ⟨0, (rvT (rvAt r 0)).length, rfl, rho42 h, Nat.zero_le _, Nat.le_refl _, ?_⟩
      rw [List.take_length]
      rfl
    · have hm := List.mem_singleton.1 hm
      cases hm
      rw [show (298 : Nat) = 256 + 42 from rfl, show (302 : Nat) = 256 + 46 from rfl, strX_one, strX_one, sig42 h, sig46 h]
      refine ⟨0, (firstT r).length, rfl, rho46 h, Nat.zero_le _, by rw [e, List.length_append]; omega, ?_⟩
      rw [e, List.take_left]
      rfl
    · have hm := List.mem_singleton.1 hm
      cases hm
      rw [show (298 : Nat) = 256 + 42 from rfl, show (302 : Nat) = 256 + 46 from rfl, strX_one, strX_one, sig42 h, sig46 h]
      refine ⟨1, 1 + (firstT r).length, rfl, (rho48 h).trans (by omega), by omega, by rw [e, List.length_cons, List.length_append]; omega, ?_⟩
      rw [e, show 1 + (firstT r).length = (firstT r).length + 1 by omega, List.take_succ_cons, List.drop_succ_cons, List.drop_zero, List.take_left]
    · have hm : (l, a, b, m) ∈ [([298], N.x 47, (none : Option N), [302])] := by
        rcases hk with rfl | rfl <;> exact hm
      have hm := List.mem_singleton.1 hm
      cases hm
      rw [show (298 : Nat) = 256 + 42 from rfl, show (302 : Nat) = 256 + 46 from rfl, strX_one, strX_one, sig42 h, sig46 h]
      have hl : (rvT (rvAt r 0)).length = t.length + (firstT r).length := by rw [e, List.length_append]
      refine ⟨t.length, (rvT (rvAt r 0)).length, ?_, rfl, by omega, Nat.le_refl _, ?_⟩
      · show rhoOf (full r s o p) 47 = _
        rw [rho47 h]
        omega
      · rw [List.take_length, e, List.drop_left]
  sb i j k m := by
    have m : (i, j, k) ∈ [(42, 46, 47)] := m
    cases List.mem_singleton.1 m
    have b1 := rvT_any (rvAt r 0)
    have b5 := first_any (r := r)
    rw [rho42 h, rho46 h, rho47 h]
    refine ⟨rfl, ?_, ?_⟩
    · show (-9223372036854775808 : Int) ≤ _
      omega
    · show _ ≤ (9223372036854775807 : Int)
      omega
  ad i c k m := by
    have m : (i, c, k) ∈ [(46, 1, 48)] := m
    cases List.mem_singleton.1 m
    have b5 := first_any (r := r)
    rw [rho46 h, rho48 h]
    refine ⟨by omega, ?_, ?_⟩
    · show (-9223372036854775808 : Int) ≤ _
      omega
    · show _ ≤ (9223372036854775807 : Int)
      omega
end
theorem ones_T [Base] (L : Lf) : ∀ (ks : List Kd) (i : Nat), (∀ k ∈ ks, k = .b ∨ k = .i .u8 ∨ k = .i .i64) → (cl L i ks).all S.one = true
  | [], _, _ => rfl
  | k :: ks, i, h => by
    have ih := ones_T L ks (i + 1) fun x hx => h x (List.mem_cons_of_mem _ hx)
    show ((L.nS (cellT i k)).one && (cl L (i + 1) ks).all S.one) = true
    rw [ih, Bool.and_true]
    have key : ∀ x : S, x.sc = true → x.one = true := fun x hx => by cases x <;> simp [S.sc] at hx <;> rfl
    rcases h k (List.mem_cons_self ..) with rfl | rfl | rfl
    · exact key _ (sc_xe _)
    · exact key _ (sc_xi _ _)
    · exact key _ (sc_xi _ _)
section
variable {r s o p : List Value} {ov rk : Nat} {w : World} (h : In4 r s o p) (c : IsCase r s o p ov rk) (k : TabOk w)
include h c k
theorem sound : @Sound (base0 w (Lf.okF (holds h c) (lens_behind (gps h) rfl (cells_len h) rfl) (facts h c))) Tryd.prog (orcs (rows (Lc rk) ov rk)) := by
  letI b0 : Base := base0 w (Lf.okF (holds h c) (lens_behind (gps h) rfl (cells_len h) rfl) (facts h c))
  have nr : ∀ k ∈ kRv, k = .b ∨ k = .i .u8 ∨ k = .i .i64 := by simp
  have no : ∀ k ∈ kOp, k = .b ∨ k = .i .u8 ∨ k = .i .i64 := by simp
  have np : ∀ k ∈ kPl, k = .b ∨ k = .i .u8 ∨ k = .i .i64 := by simp
  have hL : (Lc rk).Holds Base.rho Base.sig := holds h c
  have cells : ∀ {ks : List Kd} {us pre post : List Value}, full r s o p = pre ++ (us ++ post) → All2 Kd.ok ks us → All2 (VS r0) (cl (Lc rk) pre.length ks) us := fun e hk => Lf.nSs_ok hL (cellsT_ok (cs := full r s o p) rfl rfl e hk)
  have e0 : full r s o p = r ++ (s ++ (o ++ (p ++ ((strs r s o p).map strV ++ (ints r s o p).map (Value.int .i64))))) := by
    unfold full behind valueTexts.cells
    simp only [List.append_assoc, List.nil_append]
  have cr : All2 (VS r0) (cl (Lc rk) 0 kRv) r := cells (pre := []) (us := r) (post := s ++ (o ++ (p ++ ((strs r s o p).map strV ++ (ints r s o p).map (Value.int .i64))))) e0 h.r
  have cs : All2 (VS r0) (cl (Lc rk) 16 kRv) s := by
    have := cells (pre := r) (us := s) (post := o ++ (p ++ ((strs r s o p).map strV ++ (ints r s o p).map (Value.int .i64)))) e0 h.s
    rwa [h.lr] at this
  have co : All2 (VS r0) (cl (Lc rk) 32 kOp) o := by
    have := cells (pre := r ++ s) (us := o) (post := p ++ ((strs r s o p).map strV ++ (ints r s o p).map (Value.int .i64))) (by rw [e0]; simp only [List.append_assoc]) h.o
    rwa [List.length_append, h.lr, h.ls] at this
  have cp : All2 (VS r0) (cl (Lc rk) 37 kOp) p := by
    have := cells (pre := r ++ (s ++ o)) (us := p) (post := (strs r s o p).map strV ++ (ints r s o p).map (Value.int .i64)) (by rw [e0]; simp only [List.append_assoc]) h.p
    rwa [List.length_append, List.length_append, h.lr, h.ls, h.lo] at this
  have kA : All2 Kd.ok kOp ((r.drop 3).take 5) := (h.r.drop 3).take 5
  have kP : All2 Kd.ok kPl ((r.drop 13).take 3) := (h.r.drop 13).take 3
  have cA : All2 (VS r0) (cl (Lc rk) 3 kOp) ((r.drop 3).take 5) := by
    have := (cr.drop 3).take 5
    exact this
  have cP : All2 (VS r0) (cl (Lc rk) 13 kPl) ((r.drop 13).take 3) := by
    have := (cr.drop 13).take 3
    exact this
  have tabs : ∀ w' : World, (∀ b, b < Base.nb → w'.heap[b]? = Base.g b) → TabOk w' := fun w' hw => k.all hw
  have tx_ok : ∀ (r : Ren) (i : Nat) (l : List UInt8), Base.sig i = l → VV r (tx i) (vS2 l) := fun r i l e => ⟨[_, _], rfl, by
    refine ⟨?_, rfl, trivial⟩
    show Value.string _ = .string ⟨(strX Base.sig [256 + i]).toArray⟩
    rw [strX_one, e]⟩
  have mem_if : ∀ {b : Bool} {l : List Oracle} {O : Oracle}, O ∈ (bif b then l else []) → b = true ∧ O ∈ l := fun {b l O} hm => by
    cases b
    · cases hm
    · exact ⟨rfl, hm⟩
  refine sound_orcs fun O hO => ?_
  unfold rows at hO
  simp only [List.mem_append] at hO
  rcases hO with hO | hO | hO | hO | hO | hO | hO
  · simp only [List.mem_cons, List.not_mem_nil, or_false] at hO
    rcases hO with rfl | rfl | rfl
    · exact sound_alive04 k _
    · refine sound_cell ⟨_, Tryd.func29, by kernel_rfl, by kernel_rfl⟩ (ones_T _ _ _ no) co (u := v8 (Nat.ble 1 ov)) (fun _ => rfl) fun w' _ => ?_
      rw [← c.o1]
      exact opB_tests o h.o w' trivial
    · refine sound_cell ⟨_, Tryd.func47, by kernel_rfl, by kernel_rfl⟩ (ones_T _ _ _ nr) cr (u := v8 (Nat.ble 1 rk)) (fun _ => rfl) fun w' _ => ?_
      rw [← c.r1]
      exact rvB_tests r h.r w' trivial
  · obtain ⟨hb, hO⟩ := mem_if hO
    obtain rfl := List.mem_singleton.1 hO
    have := Nat.le_of_ble_eq_true hb
    refine sound_cell ⟨_, Tryd.func29, by kernel_rfl, by kernel_rfl⟩ (ones_T _ _ _ no) cp (u := v8 (Nat.beq ov 2)) (fun _ => rfl) fun w' _ => ?_
    have ev : Nat.beq ov 2 = (okOpE 0).val p := c.p1.elim (fun e => by omega) Eq.symm
    rw [ev]
    exact opB_tests p h.p w' trivial
  · obtain ⟨hb, hO⟩ := mem_if hO
    obtain rfl := List.mem_singleton.1 hO
    have := Nat.le_of_ble_eq_true hb
    refine sound_cell ⟨_, Tryd.func47, by kernel_rfl, by kernel_rfl⟩ (ones_T _ _ _ nr) cs (u := v8 (two rk)) (fun _ => rfl) fun w' _ => ?_
    have ev : two rk = (okRvE 0).val s := c.s1.elim (fun e => by omega) Eq.symm
    rw [ev]
    exact rvB_tests s h.s w' trivial
  · obtain ⟨hb, hO⟩ := mem_if hO
    have ho := Nat.eq_of_beq_eq_true hb
    obtain ⟨h1, h2⟩ := o_val h c ho
    simp only [List.mem_cons, List.not_mem_nil, or_false] at hO
    rcases hO with rfl | rfl
    · exact sound_cell ⟨_, Tryd.func26, by kernel_rfl, by kernel_rfl⟩ (ones_T _ _ _ no) co (fun q => tx_ok q 44 _ (sig44 h)) fun w' hw => topA_texts o h.o h1 w' (tabs w' hw)
    · exact sound_cell ⟨_, Tryd.func26, by kernel_rfl, by kernel_rfl⟩ (ones_T _ _ _ no) cp (fun q => tx_ok q 45 _ (sig45 h)) fun w' hw => topA_texts p h.p h2 w' (tabs w' hw)
  · obtain ⟨ht, hO⟩ := mem_if hO
    obtain ⟨h1, h2⟩ := r_val h c ht
    simp only [List.mem_cons, List.not_mem_nil, or_false] at hO
    rcases hO with rfl | rfl
    · exact sound_cell ⟨_, Tryd.func40, by kernel_rfl, by kernel_rfl⟩ (ones_T _ _ _ nr) cr (fun q => tx_ok q 42 _ (sig42 h)) fun w' hw => trvA_texts r h.r h1 w' (tabs w' hw)
    · exact sound_cell ⟨_, Tryd.func40, by kernel_rfl, by kernel_rfl⟩ (ones_T _ _ _ nr) cs (fun q => tx_ok q 43 _ (sig43 h)) fun w' hw => trvA_texts s h.s h2 w' (tabs w' hw)
  · obtain ⟨hb, hO⟩ := mem_if hO
    simp only [Bool.and_eq_true] at hb
    obtain ⟨ht, h3⟩ := hb
    have h3 := Nat.le_of_ble_eq_true h3
    have h15 := two_ok h c ht
    have hk := c.k ht
    obtain rfl := List.mem_singleton.1 hO
    have hv : (okOpE 3).val r = true := by
      rcases rv_parts (r_val h c ht).1 with ⟨_, e⟩ | ⟨_, e, _⟩ | ⟨_, e, _⟩ | ⟨e, _⟩ | ⟨e, _⟩
      · exact e
      · exact e
      · exact e
      · omega
      · omega
    have hf : firstT r = opT (opdAt ((r.drop 3).take 5) 0) := by
      unfold firstT hasPl
      rw [hk, opd_sub, show (decide ((rk : Int) = 4) || decide ((rk : Int) = 5)) = false by simp; omega]
      rfl
    have hs : Base.sig (bif Nat.beq rk 1 then 42 else 46) = opT (opdAt ((r.drop 3).take 5) 0) := by
      rw [← hf]
      cases h1 : Nat.beq rk 1 with
      | true =>
        have h1 := Nat.eq_of_beq_eq_true h1
        rcases parts h c ht with ⟨_, e⟩ | ⟨e, _⟩ | ⟨e, _⟩ | ⟨e, _⟩
        · exact (sig42 h).trans e
        · omega
        · omega
        · omega
      | false => exact sig46 h
    exact sound_cell ⟨_, Tryd.func26, by kernel_rfl, by kernel_rfl⟩ (ones_T _ _ _ no) cA (fun q => tx_ok q _ _ hs) fun w' hw => topA_texts _ kA (by rw [op_sub]; exact hv) w' (tabs w' hw)
  · obtain ⟨hb, hO⟩ := mem_if hO
    simp only [Bool.and_eq_true] at hb
    obtain ⟨ht, h4⟩ := hb
    have h4 := Nat.le_of_ble_eq_true h4
    have h15 := two_ok h c ht
    have hk := c.k ht
    obtain rfl := List.mem_singleton.1 hO
    have hv : (okPlE 13).val r = true := by
      rcases rv_parts (r_val h c ht).1 with ⟨e, _⟩ | ⟨e, _⟩ | ⟨e, _⟩ | ⟨_, e⟩ | ⟨_, e⟩
      · omega
      · omega
      · omega
      · exact e
      · exact e
    have hf : firstT r = placeT (cellI ((r.drop 13).take 3) 0) (decide (cellI ((r.drop 13).take 3) 1 = 1)) (cellI ((r.drop 13).take 3) 2) := by
      unfold firstT hasPl
      rw [cellI_sub (by decide), cellI_sub (by decide), cellI_sub (by decide), hk, show (decide ((rk : Int) = 4) || decide ((rk : Int) = 5)) = true by simp; omega]
      rfl
    exact sound_cell ⟨_, Tryd.func22, by kernel_rfl, by kernel_rfl⟩ (ones_T _ _ _ np) cP (fun q => tx_ok q 46 _ ((sig46 h).trans hf)) fun w' hw => tplA_texts _ kP (by rw [pl_sub]; exact hv) w' (tabs w' hw)
theorem walk0 : Calls Tryd.prog 14 #[.agg r.toArray, .agg s.toArray, .agg o.toArray, .agg p.toArray] w fun e w' => e = .returned (.bool true) ∧ Below w.heap.size w w' := by
  have hg : good (ov, rk) = true := by
    refine List.all_eq_true.1 run (ov, rk) ?_
    have := c.ov2
    have := c.rk6
    exact List.mem_flatMap.2 ⟨ov, List.mem_range.2 (by omega), List.mem_map.2 ⟨rk, List.mem_range.2 (by omega), rfl⟩⟩
  exact law_facts (vs := [.agg r.toArray, .agg s.toArray, .agg o.toArray, .agg p.toArray]) k.size (gps h) rfl (cells_len h) rfl (holds h c) (facts h c) _ (sound_runs _ (sound h c k) 20 10) hg
end
/-- each of the arguments is some case -/
theorem some_case {r s o p : List Value} (h : In4 r s o p) : ∃ ov rk, IsCase r s o p ov rk := by
  have ho : ∃ ov : Nat, ov ≤ 2 ∧ (okOpE 0).val o = Nat.ble 1 ov ∧ (ov = 0 ∨ (okOpE 0).val p = Nat.beq ov 2) := by
    cases h1 : (okOpE 0).val o with
    | false => exact ⟨0, by decide, rfl, .inl rfl⟩
    | true =>
      cases h2 : (okOpE 0).val p with
      | false => exact ⟨1, by decide, rfl, .inr rfl⟩
      | true => exact ⟨2, by decide, rfl, .inr rfl⟩
  obtain ⟨ov, h1, h2, h3⟩ := ho
  have hr : ∃ rk : Nat, rk ≤ 6 ∧ (okRvE 0).val r = Nat.ble 1 rk ∧ (rk = 0 ∨ (okRvE 0).val s = two rk) ∧ (two rk = true → cellI r 0 = rk) := by
    cases g1 : (okRvE 0).val r with
    | false => exact ⟨0, by decide, rfl, .inl rfl, fun e => by cases e⟩
    | true =>
      cases g2 : (okRvE 0).val s with
      | false => exact ⟨6, by decide, rfl, .inr rfl, fun e => by cases e⟩
      | true =>
        rcases rv_parts g1 with ⟨e, _⟩ | ⟨e, _⟩ | ⟨e, _⟩ | ⟨e, _⟩ | ⟨e, _⟩
        · exact ⟨1, by decide, rfl, .inr rfl, fun _ => e⟩
        · exact ⟨2, by decide, rfl, .inr rfl, fun _ => e⟩
        · exact ⟨3, by decide, rfl, .inr rfl, fun _ => e⟩
        · exact ⟨4, by decide, rfl, .inr rfl, fun _ => e⟩
        · exact ⟨5, by decide, rfl, .inr rfl, fun _ => e⟩
  obtain ⟨rk, g1, g2, g3, g4⟩ := hr
  exact ⟨ov, rk, h2, h3, h1, g2, g3, g1, g4⟩
theorem walk {w : World} (k : TabOk w) {vs cs : List Value} (hg : Gps gs vs cs) : Calls Tryd.prog 14 vs.toArray w fun e w' => e = .returned (.bool true) ∧ Below w.heap.size w w' := by
  have one : ∀ {ks : List Kd} {v : Value} {us : List Value}, GpOk (true, ks) v us → All2 Kd.ok ks us ∧ v = .agg us.toArray := fun {ks v us} h => by
    obtain ⟨h1, h2⟩ := h
    rcases h2 with ⟨_, e⟩ | ⟨e, _⟩
    · exact ⟨h1, e⟩
    · cases e
  match vs, hg with
  | [v0, v1, v2, v3], ⟨r, _, _, h0, s, _, _, h1, o, _, _, h2, p, _, _, h3, _⟩ =>
    obtain ⟨k0, rfl⟩ := one h0
    obtain ⟨k1, rfl⟩ := one h1
    obtain ⟨k2, rfl⟩ := one h2
    obtain ⟨k3, rfl⟩ := one h3
    have h : In4 r s o p := ⟨k0, k1, k2, k3⟩
    obtain ⟨ov, rk, c⟩ := some_case h
    exact walk0 h c k
end Go.Proofs.YtncbkjokabgkbaaDoor.valueTexts
