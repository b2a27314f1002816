/- TopCode's own variables: the place, the rvalue, the statement; and the law where it asks nothing. -/
import Derived.Test.YtnhnelgkcldkbaaGreatDoorCodAl
import Derived.Test.YtnhnelgkcldkbaaGreatDoorCodE
namespace Go.Proofs.YtnhnelgkcldkbaaGreatDoor.enc
open Go.RowKit Go.Proofs.YtnhnelgkcldkbaaGreatDoor Go.Proofs.YtnhnelgkcldkbaaGreatDoor.Am Go.Proofs.YtnhnelgkcldkbaaGreatDoor.loan Go.Proofs.YtnhnelgkcldkbaaGreatDoor.bld
set_option linter.unusedVariables false

/-- the law's two variables: the place and the rvalue, and all that was there, as they were -/
structure Cx (w : World) (pc rc : List Value) (W : World) : Prop where
  b : Below w.heap.size w W
  p : W.heap[w.heap.size]? = some (.cells pc.toArray tPl (0, 0))
  r : W.heap[w.heap.size + 1]? = some (.cells rc.toArray tRv (0, 0))
theorem Cx.lt {w W : World} {pc rc : List Value} (h : Cx w pc rc W) : w.heap.size + 1 < W.heap.size := (Array.getElem?_eq_some_iff.1 h.r).1
theorem Cx.below {w W W' : World} {pc rc : List Value} (h : Cx w pc rc W) (hb : Below W.heap.size W W') : Cx w pc rc W' := ⟨h.b.trans (hb.mono h.b.size), (hb.block _ (by have := h.lt; omega)).trans h.p, (hb.block _ h.lt).trans h.r⟩
theorem Cx.start (w : World) (pc rc : List Value) : Cx w pc rc ((w.alloc (.cells pc.toArray tPl)).alloc (.cells rc.toArray tRv)) :=
  ⟨((Below.refl _ w).alloc (Nat.le_refl _) _).alloc (by simp) _, at_more (at_alloc rfl), at_alloc (by simp)⟩
theorem Cx.rp {w W : World} {pc rc : List Value} (h : Cx w pc rc W) : W.rangeAt w.heap.size 0 pc := range_block (X := []) (Z := []) h.p (by simp)
theorem Cx.rr {w W : World} {pc rc : List Value} (h : Cx w pc rc W) : W.rangeAt (w.heap.size + 1) 0 rc := range_block (X := []) (Z := []) h.r (by simp)
/-- .. and the statement -/
structure Dx (w : World) (pc rc : List Value) (S : Nat) (sc : List Value) (W : World) : Prop where
  x : Cx w pc rc W
  s : W.heap[S]? = some (.cells sc.toArray tSt (0, 0))
theorem Dx.below {w W W' : World} {pc rc sc : List Value} {S : Nat} (h : Dx w pc rc S sc W) (hb : Below W.heap.size W W') : Dx w pc rc S sc W' := ⟨h.x.below hb, (hb.block _ (Array.getElem?_eq_some_iff.1 h.s).1).trans h.s⟩
theorem Dx.rs {w W : World} {pc rc sc : List Value} {S : Nat} (h : Dx w pc rc S sc W) : W.rangeAt S 0 sc := range_block (X := []) (Z := []) h.s (by simp)
theorem Dx.start {w W : World} {pc rc : List Value} (h : Cx w pc rc W) (sc : List Value) : Dx w pc rc W.heap.size sc (W.alloc (.cells sc.toArray tSt)) := ⟨h.below ((Below.refl _ W).alloc (Nat.le_refl _) _), at_alloc rfl⟩
/-- the statement's cells -/
def stC (pc rc : List Value) : List Value := .int .u8 1 :: (pc ++ (rc ++ (zO ++ [.int .i64 0])))
theorem all2_app {ks ls : List Kd} {vs : List Value} : ∀ {us : List Value}, All2 Kd.ok ks us → All2 Kd.ok ls vs → All2 Kd.ok (ks ++ ls) (us ++ vs) := by
  induction ks with
  | nil => intro us h h2; cases us with
    | nil => exact h2
    | cons a us => exact absurd h (by simp [All2])
  | cons k ks ih => intro us h h2; cases us with
    | nil => exact absurd h (by simp [All2])
    | cons a us => exact ⟨h.1, ih h.2 h2⟩
theorem kd_one {ks : List Kd} : ∀ {us : List Value}, All2 Kd.ok ks us → ∀ u ∈ us, u.oneCell' = true := by
  induction ks with
  | nil => intro us h u hu; cases us with
    | nil => cases hu
    | cons a us => exact absurd h (by simp [All2])
  | cons k ks ih => intro us h u hu; cases us with
    | nil => cases hu
    | cons a us =>
      rcases List.mem_cons.1 hu with rfl | hm
      · have h1 := h.1
        cases k <;> obtain ⟨x, hx⟩ := h1 <;> first | (rw [hx]; rfl) | (rw [hx.1]; rfl)
      · exact ih h.2 u hm
theorem stC_kd {pc rc : List Value} (hp : All2 Kd.ok kPl pc) (hr : All2 Kd.ok kRv rc) : All2 Kd.ok kSt (stC pc rc) :=
  ⟨u8_ok (by decide) (by decide), all2_app hp (all2_app hr ⟨u8_ok (by decide) (by decide), i64_ok (by decide) (by decide), i64_ok (by decide) (by decide), b_ok, u8_ok (by decide) (by decide), i64_ok (by decide) (by decide), trivial⟩)⟩
theorem stC_len {pc rc : List Value} (hp : All2 Kd.ok kPl pc) (hr : All2 Kd.ok kRv rc) : (stC pc rc).length = 26 := (stC_kd hp hr).len.symm
theorem pl_open {us : List Value} (h : All2 Kd.ok kPl us) : ∃ l d f, us = [.int .i64 l, .bool d, .int .u8 f] := by
  obtain ⟨a, u1, rfl, e1⟩ := cons_of h.len.symm
  obtain ⟨b, u2, rfl, e2⟩ := cons_of e1
  obtain ⟨c, u3, rfl, e3⟩ := cons_of e2
  cases List.eq_nil_of_length_eq_zero e3
  obtain ⟨⟨l, rfl, _⟩, ⟨d, rfl⟩, ⟨f, rfl, _⟩, _⟩ := h
  exact ⟨l, d, f, rfl⟩
theorem rv_open {us : List Value} (h : us.length = 16) : ∃ c0 c1 c2 c3 c4 c5 c6 c7 c8 c9 c10 c11 c12 c13 c14 c15, us = [c0, c1, c2, c3, c4, c5, c6, c7, c8, c9, c10, c11, c12, c13, c14, c15] := by
  obtain ⟨c0, u0, rfl, h0⟩ := cons_of h
  obtain ⟨c1, u1, rfl, h1⟩ := cons_of h0
  obtain ⟨c2, u2, rfl, h2⟩ := cons_of h1
  obtain ⟨c3, u3, rfl, h3⟩ := cons_of h2
  obtain ⟨c4, u4, rfl, h4⟩ := cons_of h3
  obtain ⟨c5, u5, rfl, h5⟩ := cons_of h4
  obtain ⟨c6, u6, rfl, h6⟩ := cons_of h5
  obtain ⟨c7, u7, rfl, h7⟩ := cons_of h6
  obtain ⟨c8, u8, rfl, h8⟩ := cons_of h7
  obtain ⟨c9, u9, rfl, h9⟩ := cons_of h8
  obtain ⟨c10, u10, rfl, h10⟩ := cons_of h9
  obtain ⟨c11, u11, rfl, h11⟩ := cons_of h10
  obtain ⟨c12, u12, rfl, h12⟩ := cons_of h11
  obtain ⟨c13, u13, rfl, h13⟩ := cons_of h12
  obtain ⟨c14, u14, rfl, h14⟩ := cons_of h13
  obtain ⟨c15, u15, rfl, h15⟩ := cons_of h14
  cases List.eq_nil_of_length_eq_zero h15
  exact ⟨c0, c1, c2, c3, c4, c5, c6, c7, c8, c9, c10, c11, c12, c13, c14, c15, rfl⟩
theorem built_st (p0 p1 p2 c0 c1 c2 c3 c4 c5 c6 c7 c8 c9 c10 c11 c12 c13 c14 c15 : Value) : Tryz.prog.built tSt [(0, .int .u8 1), (1, .agg #[p0, p1, p2]), (2, .agg #[c0, c1, c2, c3, c4, c5, c6, c7, c8, c9, c10, c11, c12, c13, c14, c15])] = some #[.int .u8 1, p0, p1, p2, c0, c1, c2, c3, c4, c5, c6, c7, c8, c9, c10, c11, c12, c13, c14, c15, .int .u8 0, .int .i64 0, .int .i64 0, .bool false, .int .u8 0, .int .i64 0] := by kernel_rfl
theorem built_jm (A : Option Addr) (n c : Nat) (p0 p1 p2 : Value) : Tryz.prog.built 81 [(0, .int .u8 4), (5, .slice A n c), (6, .agg #[p0, p1, p2])] = some #[.int .u8 4, .int .u8 0, .int .i64 0, .int .i64 0, .bool false, .int .u8 0, .int .i64 0, .int .i64 0, .int .i64 0, .slice A n c, p0, p1, p2] := by kernel_rfl
theorem wpList_buildTo {P : Program} {ops : Array Oper} {rest : List Oper} {o : Oper} {a : Act} {W : World} {Q : Exit → Act → World → Prop} (hgd : o.guard = none) (t : TypeId) (parts : Array (Nat × Operand)) (ho : o.op = .build t parts) (cells : Array Value)
    (hc : P.built t (parts.map fun (i, x) => (i, a.eval x)).toList = some cells) (h : wpList P ops Q rest (a.put o.dst (.agg cells)) W) : wpList P ops Q (o :: rest) a W :=
  wpList_plain hgd fun _ hK => by
    unfold Oper.wp execOp
    simp only [ho, Sem.run_bind, run_build W t _ cells hc, Result.andThen_ok]
    exact hK _ _ h
theorem built_c {pc rc : List Value} (hp : All2 Kd.ok kPl pc) (hr : rc.length = 16) : Tryz.prog.built tSt [(0, .int .u8 1), (1, .agg pc.toArray), (2, .agg rc.toArray)] = some (stC pc rc).toArray := by
  obtain ⟨l, d, f, rfl⟩ := pl_open hp
  obtain ⟨c0, c1, c2, c3, c4, c5, c6, c7, c8, c9, c10, c11, c12, c13, c14, c15, rfl⟩ := rv_open hr
  exact built_st _ _ _ _ _ _ _ _ _ _ _ _ _ _ _ _ _ _ _
theorem plS3 : (Tryz.prog.info? 57).map (·.size) = some 3 := by kernel_rfl
theorem chk_c {pc rc : List Value} {b : Bool} (hp : All2 Kd.ok kPl pc) (hr : All2 Kd.ok kRv rc) (hc : okStE.val (stC pc rc) = b) (W : World) : Calls Tryz.prog 20 #[.agg (stC pc rc).toArray] W (bld.Ans W (v8 b)) := by
  have := stP_tests _ (stC_kd hp hr) W trivial
  rw [hc] at this
  exact this
set_option maxHeartbeats 8000000 in
set_option maxRecDepth 100000 in
theorem code_bad {w : World} {pc rc : List Value} {code : Int} (hp : All2 Kd.ok kPl pc) (hr : All2 Kd.ok kRv rc) (kt : TabOk w) (hc : okStE.val (stC pc rc) = false) : Calls Tryz.prog 4 #[.agg pc.toArray, .agg rc.toArray, .int .i64 code] w (bld.Ans w (.bool true)) := by
  have HC := Lib.hid (show ∀ W1, Calls Tryz.prog 20 #[.agg (stC pc rc).toArray] W1 (bld.Ans W1 (.int .i64 8)) from chk_c hp hr hc)
  clear hc
  have HA := Lib.hid (fun (W : World) (hW : Below w.heap.size w W) => alive06_c (tab_b kt hW))
  have HON := Lib.hid (kd_one (stC_kd hp hr))
  have H26 := Lib.hid (stC_len hp hr)
  have hrl := hr.len
  have HSL := Lib.hid (show (Tryz.prog.info? tSt).map (·.size) = some (stC pc rc).length by rw [H26.out]; exact stR)
  have HRL := Lib.hid (show (Tryz.prog.info? tRv).map (·.size) = some rc.length by rw [← hrl]; exact rvR)
  have HPL := Lib.hid (show (Tryz.prog.info? tPl).map (·.size) = some pc.length by rw [← hp.len]; exact plS3)
  have HBD := Lib.hid (built_c hp hrl.symm)
  clear kt hp hr hrl
  have T0 := Lib.hid (Cx.start w pc rc)
  go_enter Tryz.func4, Tryz.ntmps4
  go_upto_region 2 with (go_at_call 19; refine (HA.out _ T0.out.b).mono ?_; rintro e w1 ⟨rfl, b1⟩)
  have T1 := Lib.hid (T0.out.below b1)
  have h26 := H26.out
  have hsto : (storeCells ⟨w1.heap.size, 0, none⟩ (stC pc rc)).run Tryz.prog (w1.alloc (.cells #[.int .u8 0, .int .i64 0, .bool false, .int .u8 0, .int .u8 0, .int .u8 0, .int .u8 0, .int .u8 0, .int .i64 0, .int .i64 0, .bool false, .int .u8 0, .int .u8 0, .int .i64 0, .int .i64 0, .bool false, .int .u8 0, .int .i64 0, .bool false, .int .u8 0, .int .u8 0, .int .i64 0, .int .i64 0, .bool false, .int .u8 0, .int .i64 0] tSt)) = .ok () (w1.alloc (.cells (stC pc rc).toArray tSt)) := run_store_fresh rfl (by rw [h26]; rfl) HON.out
  clear b1 T0 HA
  go_upto_region 3 with (first | (refine wpList_load_mid rfl tPl _ rfl w.heap.size 0 rfl pc _ T1.out.rp Tryz.underlying57 rfl HPL.out ?_) | (refine wpList_load_mid rfl tRv _ rfl (w.heap.size + 1) 0 rfl rc _ T1.out.rr Tryz.underlying61 rfl HRL.out ?_) | (refine wpList_buildTo rfl tSt _ rfl (stC pc rc).toArray (by simp only [List.map_toArray, List.map_cons, List.map_nil]; exact HBD.out) ?_))
  have T2 := Lib.hid (Dx.start T1.out (stC pc rc))
  clear hsto h26
  generalize w1.alloc (.cells (stC pc rc).toArray tSt) = w2 at *
  generalize w1.heap.size = S at *
  clear H26 HON T1 HBD
  generalize stC pc rc = sc at *
  go_wp2_with (first | (refine wpList_load_mid rfl tSt _ rfl S 0 rfl sc _ T2.out.rs Tryz.underlying63 rfl HSL.out ?_) | (go_at_call 20; refine (HC.out _).mono ?_; rintro e w3 ⟨rfl, b3⟩))
  go_ret
  exact ⟨rfl, T2.out.x.b.trans (b3.mono T2.out.x.b.size)⟩
set_option maxHeartbeats 8000000 in
set_option maxRecDepth 100000 in
theorem code_out {w : World} {pc rc : List Value} {code : Int} (hp : All2 Kd.ok kPl pc) (hr : All2 Kd.ok kRv rc) (kt : TabOk w) (hc : okStE.val (stC pc rc) = true) (ho : code < 0 ∨ 7 < code) : Calls Tryz.prog 4 #[.agg pc.toArray, .agg rc.toArray, .int .i64 code] w (bld.Ans w (.bool true)) := by
  have HC := Lib.hid (show ∀ W1, Calls Tryz.prog 20 #[.agg (stC pc rc).toArray] W1 (bld.Ans W1 (.int .i64 0)) from chk_c hp hr hc)
  clear hc
  have HA := Lib.hid (fun (W : World) (hW : Below w.heap.size w W) => alive06_c (tab_b kt hW))
  have HON := Lib.hid (kd_one (stC_kd hp hr))
  have H26 := Lib.hid (stC_len hp hr)
  have hrl := hr.len
  have HSL := Lib.hid (show (Tryz.prog.info? tSt).map (·.size) = some (stC pc rc).length by rw [H26.out]; exact stR)
  have HRL := Lib.hid (show (Tryz.prog.info? tRv).map (·.size) = some rc.length by rw [← hrl]; exact rvR)
  have HPL := Lib.hid (show (Tryz.prog.info? tPl).map (·.size) = some pc.length by rw [← hp.len]; exact plS3)
  have HBD := Lib.hid (built_c hp hrl.symm)
  have HO := Lib.hid ho
  clear ho kt hp hr hrl
  have T0 := Lib.hid (Cx.start w pc rc)
  go_enter Tryz.func4, Tryz.ntmps4
  go_upto_region 2 with (go_at_call 19; refine (HA.out _ T0.out.b).mono ?_; rintro e w1 ⟨rfl, b1⟩)
  have T1 := Lib.hid (T0.out.below b1)
  have h26 := H26.out
  have hsto : (storeCells ⟨w1.heap.size, 0, none⟩ (stC pc rc)).run Tryz.prog (w1.alloc (.cells #[.int .u8 0, .int .i64 0, .bool false, .int .u8 0, .int .u8 0, .int .u8 0, .int .u8 0, .int .u8 0, .int .i64 0, .int .i64 0, .bool false, .int .u8 0, .int .u8 0, .int .i64 0, .int .i64 0, .bool false, .int .u8 0, .int .i64 0, .bool false, .int .u8 0, .int .u8 0, .int .i64 0, .int .i64 0, .bool false, .int .u8 0, .int .i64 0] tSt)) = .ok () (w1.alloc (.cells (stC pc rc).toArray tSt)) := run_store_fresh rfl (by rw [h26]; rfl) HON.out
  clear b1 T0 HA
  go_upto_region 3 with (first | (refine wpList_load_mid rfl tPl _ rfl w.heap.size 0 rfl pc _ T1.out.rp Tryz.underlying57 rfl HPL.out ?_) | (refine wpList_load_mid rfl tRv _ rfl (w.heap.size + 1) 0 rfl rc _ T1.out.rr Tryz.underlying61 rfl HRL.out ?_) | (refine wpList_buildTo rfl tSt _ rfl (stC pc rc).toArray (by simp only [List.map_toArray, List.map_cons, List.map_nil]; exact HBD.out) ?_))
  have T2 := Lib.hid (Dx.start T1.out (stC pc rc))
  clear hsto h26
  generalize w1.alloc (.cells (stC pc rc).toArray tSt) = w2 at *
  generalize w1.heap.size = S at *
  clear H26 HON T1 HBD
  generalize stC pc rc = sc at *
  rcases Int.lt_or_le code 0 with h0 | h0
  · have d0 : decide (code < 0) = true := decide_eq_true h0
    go_wp2_with (first | (refine wpList_load_mid rfl tSt _ rfl S 0 rfl sc _ T2.out.rs Tryz.underlying63 rfl HSL.out ?_) | (go_at_call 20; refine (HC.out _).mono ?_; rintro e w3 ⟨rfl, b3⟩))
    go_ret
    exact ⟨rfl, T2.out.x.b.trans (b3.mono T2.out.x.b.size)⟩
  · have h7 : 7 < code := by have := HO.out; omega
    have d0 : decide (code < 0) = false := decide_eq_false (by omega)
    have d7 : decide (7 < code) = true := decide_eq_true h7
    have n0 : ¬ code < 0 := by omega
    go_wp2_with (first | (refine wpList_load_mid rfl tSt _ rfl S 0 rfl sc _ T2.out.rs Tryz.underlying63 rfl HSL.out ?_) | (go_at_call 20; refine (HC.out _).mono ?_; rintro e w3 ⟨rfl, b3⟩))
    go_ret
    exact ⟨rfl, T2.out.x.b.trans (b3.mono T2.out.x.b.size)⟩
end Go.Proofs.YtnhnelgkcldkbaaGreatDoor.enc
