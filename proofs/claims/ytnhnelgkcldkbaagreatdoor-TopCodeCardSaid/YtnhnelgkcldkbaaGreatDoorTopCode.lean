/- TopCode: the law answers true for every place, rvalue and number. -/
import Derived.Test.YtnhnelgkcldkbaaGreatDoorCodC
import Derived.Test.YtnhnelgkcldkbaaGreatDoorRegC
namespace Go.Proofs.YtnhnelgkcldkbaaGreatDoor.enc
open Go.RowKit Go.Proofs.YtnhnelgkcldkbaaGreatDoor Go.Proofs.YtnhnelgkcldkbaaGreatDoor.Am Go.Proofs.YtnhnelgkcldkbaaGreatDoor.loan Go.Proofs.YtnhnelgkcldkbaaGreatDoor.bld
set_option linter.unusedVariables false

theorem b16R : (Tryz.prog.info? 69).map (·.size) = some 16 := by kernel_rfl
theorem jmS : (Tryz.prog.info? 81).map (·.size) = some 13 := by kernel_rfl
theorem tyS : (Tryz.prog.info? 88).map (·.size) = some 2 := by kernel_rfl
theorem range_on' {w w' : World} {g o : Nat} {cs : List Value} (h : w.rangeAt g o cs) (hg : g < w.heap.size) (hb : Below w.heap.size w w') : w'.rangeAt g o cs := fun j u hj => (hb.cell (p := ⟨g, o + j, none⟩) hg).trans (h j u hj)
theorem want_c {P : Program} {ops : Array Oper} {Q : Exit → Act → World → Prop} {o : Oper} {rest : List Oper} {a : Act} {w : World} (hw : Region.wanted o (yielded ops a.tmps) = true) (h : o.wp P a w (wpList P ops Q rest) Q) : wpList P ops Q (o :: rest) a w := by
  unfold wpList
  rw [if_pos hw]
  exact .inl h
/-- what the law asks of the kind of an rvalue -/
theorem kind_c (r : RvV) : ∃ (k : Int) (rest : List Value), r.c = .int .u8 k :: rest ∧ ((r.own = [] ∧ (k != 4) = true ∧ (k != 5) = true) ∨ k = 4 ∨ k = 5) := by
  cases r with
  | use a => exact ⟨1, _, rfl, .inl ⟨rfl, by decide, by decide⟩⟩
  | bin o a b => exact ⟨2, _, rfl, .inl ⟨rfl, by decide, by decide⟩⟩
  | two a b => exact ⟨3, _, rfl, .inl ⟨rfl, by decide, by decide⟩⟩
  | ref o p => exact ⟨4, _, rfl, .inr (.inl rfl)⟩
  | raw p => exact ⟨5, _, rfl, .inr (.inr rfl)⟩
/-- .. and the jump -/
structure Jx (w : World) (pc rc : List Value) (S : Nat) (sc : List Value) (J : Nat) (jc : List Value) (A : Option Addr) (els : List (List Value)) (W : World) : Prop where
  d : Dx w pc rc S sc W
  j : W.heap[J]? = some (.cells jc.toArray 81 (0, 0))
  rows : RowsAt W A 5 els
theorem Jx.below {w W W' : World} {pc rc sc jc : List Value} {S J : Nat} {A : Option Addr} {els : List (List Value)} (h : Jx w pc rc S sc J jc A els W) (hb : Below W.heap.size W W') : Jx w pc rc S sc J jc A els W' := ⟨h.d.below hb, (hb.block _ (Array.getElem?_eq_some_iff.1 h.j).1).trans h.j, h.rows.below hb⟩
theorem Jx.rj {w W : World} {pc rc sc jc : List Value} {S J : Nat} {A : Option Addr} {els : List (List Value)} (h : Jx w pc rc S sc J jc A els W) : W.rangeAt J 0 jc := range_block (X := []) (Z := []) h.j (by simp)
theorem Jx.rs {w W : World} {pc rc sc jc : List Value} {S J : Nat} {A : Option Addr} {els : List (List Value)} (h : Jx w pc rc S sc J jc A els W) : W.rangeAt S 0 sc := h.d.rs
theorem Jx.start {w W : World} {pc rc sc : List Value} {S : Nat} {A : Option Addr} {els : List (List Value)} (h : Dx w pc rc S sc W) (rows : RowsAt W A 5 els) (jc : List Value) : Jx w pc rc S sc W.heap.size jc A els (W.alloc (.cells jc.toArray 81)) :=
  ⟨h.below ((Below.refl _ W).alloc (Nat.le_refl _) _), at_alloc rfl, rows.below ((Below.refl _ W).alloc (Nat.le_refl _) _)⟩
set_option maxHeartbeats 32000000 in
set_option maxRecDepth 100000 in
theorem code_main {w : World} {q : PlV} {r : RvV} {code : Int} (hq : q.ok) (hrk : r.ok) (hp : All2 Kd.ok kPl q.c) (hr : All2 Kd.ok kRv r.c) (kt : TabOk w) (hc : okStE.val (stC q.c r.c) = true) (hc0 : 0 ≤ code) (hc7 : code ≤ 7) : Calls Tryz.prog 4 #[.agg q.c.toArray, .agg r.c.toArray, .int .i64 code] w (bld.Ans w (.bool true)) := by
  have hks := stC_kd hp hr
  have hrv := rv_of_st hks hc
  have H26 := Lib.hid (stC_len hp hr)
  have HON := Lib.hid (kd_one hks)
  have hrl := rv_len r
  have HA := Lib.hid (fun (W : World) (hW : Below w.heap.size w W) => alive06_c (tab_b kt hW))
  have HC := Lib.hid (fun (W1 : World) => show Calls Tryz.prog 20 #[.agg (stC q.c r.c).toArray] W1 (bld.Ans W1 (.int .i64 0)) from chk_c hp hr hc W1)
  have HPC := Lib.hid (fun (W : World) => places_c (W := W) hr hrv)
  have HUC := Lib.hid (fun (W : World) (hW : Below w.heap.size w W) => uses_c hr hrv hrk (tab_b kt hW))
  have HOC := Lib.hid (fun (W : World) => ops_c (W := W) hr hrv)
  have HSU := Lib.hid (fun (W : World) (hW : Below w.heap.size w W) => suses_c hks hc (tab_b kt hW))
  have HSM := Lib.hid (fun (W : World) (hW : Below w.heap.size w W) => smoves_c hks hc (tab_b kt hW))
  have HSS := Lib.hid (fun (W : World) => sets_c (W := W) hks hc)
  have HTB := Lib.hid (fun (W : World) (hW : Below w.heap.size w W) => tab_b kt hW)
  have HSL := Lib.hid (show (Tryz.prog.info? tSt).map (·.size) = some (stC q.c r.c).length by rw [H26.out]; exact stR)
  have HRL := Lib.hid (show (Tryz.prog.info? tRv).map (·.size) = some r.c.length by rw [hrl]; exact rvR)
  have HPL := Lib.hid (show (Tryz.prog.info? tPl).map (·.size) = some q.c.length from plS3)
  have HOK := Lib.hid (pls_ok hrk)
  have HOW := Lib.hid (kind_c r)
  obtain ⟨p8, hp8, hpe⟩ := code_type hc0 hc7
  have HOF := Lib.hid (fun (W : World) => (by have := of_c hp8 W; rwa [hpe] at this : Calls Tryz.prog 36 #[.int .i64 code] W (bld.Ans W (.tuple #[.agg #[.int .u8 (p8.1 : Nat), .int .u8 (p8.2 : Nat)], .int .i64 0]))))
  have HCF := Lib.hid (fun (W : World) => (by have := code_c hp8 W; rwa [hpe] at this : Calls Tryz.prog 37 #[.agg #[.int .u8 (p8.1 : Nat), .int .u8 (p8.2 : Nat)]] W (bld.Ans W (.tuple #[.int .i64 code, .int .i64 0]))))
  have HJ := Lib.hid (fun (ho : r.own = []) (A : Option Addr) (c : Nat) (W : World) (rows : RowsAt W A 5 (r.ops.map OpV.c)) (hc : (r.ops.map OpV.c).length ≤ c) (hc2 : c ≤ 2) => (by
    have h1 := juses_c (ops_ok hrk) hq (ops_two r) rows hc hc2
    have h2 := jmoves_c (ops_ok hrk) hq (ops_two r) rows hc hc2
    have h3 := jsets_c (ops_ok hrk) hq (ops_two r) rows hc hc2
    have h4 := jcheck_c (ops_ok hrk) hq (ops_two r) rows hc hc2
    rw [← uses_eq hq hrk ho] at h1
    rw [← moves_eq hrk ho] at h2
    rw [← sets_eq q hq r] at h3
    exact ⟨h1, h2, h3, h4⟩ : Calls Tryz.prog 30 #[.agg (jmC A (r.ops.map OpV.c).length c q.c).toArray] W (AnsL (stU (stOf (stC q.c r.c))) W) ∧ Calls Tryz.prog 32 #[.agg (jmC A (r.ops.map OpV.c).length c q.c).toArray] W (AnsL (stM (stOf (stC q.c r.c))) W) ∧
      Calls Tryz.prog 34 #[.agg (jmC A (r.ops.map OpV.c).length c q.c).toArray] W (bld.Ans W (.tuple #[.int .i64 (setI (stC q.c r.c)), .int .i64 0])) ∧ Calls Tryz.prog 35 #[.agg (jmC A (r.ops.map OpV.c).length c q.c).toArray] W (bld.Ans W (.int .i64 0))))
  have hq0 := hq.l0
  have hq1 := hq.l1
  have HNX := Lib.hid (fun (W : World) => (by have := put_r hq0 (show q.l ≤ 18446744073709551615 by omega) W; rwa [put_at (show q.l < 128 by omega)] at this : Calls Tryz.prog 38 #[.int .u64 q.l] W (PutR [q.l] W)))
  have HNY := Lib.hid (fun (W : World) => (by have := put_r hc0 (show code ≤ 18446744073709551615 by omega) W; rwa [put_at (show code < 128 by omega)] at this : Calls Tryz.prog 38 #[.int .u64 code] W (PutR [code] W)))
  have HG := Lib.hid (fun (W : World) (A : Option Addr) (c : Nat) (h : Row W W.heap.size .u8 A [q.l, code]) (hcc : 2 ≤ c) => (by
    have hx : ∀ c ∈ [q.l, code], 0 ≤ c ∧ c < 256 := fun c hc => by
      rcases List.mem_cons.1 hc with rfl | e
      · omega
      · rw [List.mem_singleton.1 e]; omega
    have h1 := get_any A c W.heap.size [q.l, code] 0 W h hx hcc (by show 2 ≤ 4611686018427387904; decide) (by decide) (by decide)
    have h2 := get_any A c W.heap.size [q.l, code] 1 W h hx hcc (by show 2 ≤ 4611686018427387904; decide) (by decide) (by decide)
    rw [get_one hq0 (by omega)] at h1
    rw [get_two hc0 (by omega)] at h2
    exact ⟨h1, h2⟩ : Calls Tryz.prog 39 #[.slice A 2 c, .int .i64 0] W (fun e w' => e = .returned (.tuple #[.int .u64 q.l, .int .i64 1, .int .i64 0]) ∧ W = w') ∧ Calls Tryz.prog 39 #[.slice A 2 c, .int .i64 1] W (fun e w' => e = .returned (.tuple #[.int .u64 code, .int .i64 2, .int .i64 0]) ∧ W = w')))
  have hd0 : decide (code < 0) = false := decide_eq_false (by omega)
  have hd7 : decide (7 < code) = false := decide_eq_false (by omega)
  have hn0 : ¬ code < 0 := by omega
  have hn7 : ¬ 7 < code := by omega
  have hw1 : IntKind.u64.wrap q.l = q.l := IntWalk.u64_in q.l (by omega)
  have hw2 : IntKind.u64.wrap code = code := IntWalk.u64_in code (by omega)
  have HBD := Lib.hid (built_c hp hrl)
  have HBJ := Lib.hid (fun (A : Option Addr) (n c : Nat) => show Tryz.prog.built 81 [(0, .int .u8 4), (5, .slice A n c), (6, .agg q.c.toArray)] = some (jmC A n c q.c).toArray from built_jm _ _ _ _ _ _)
  clear hrl
  clear kt hp hr hq hrk hks hrv hc hpe
  generalize r.c = rc at *
  have HZ := Lib.hid (show q.c = [.int .i64 q.l, .bool q.d, .int .u8 q.f] from rfl)
  generalize q.c = pc at *
  have T0 := Lib.hid (Cx.start w pc rc)
  go_enter Tryz.func4, Tryz.ntmps4
  go_upto_region 2 with (go_at_call 19; refine (HA.out _ T0.out.b).mono ?_; rintro e w1 ⟨rfl, b1⟩)
  have T1 := Lib.hid (T0.out.below b1)
  have h26 := H26.out
  have hsto : (storeCells ⟨w1.heap.size, 0, none⟩ (stC pc rc)).run Tryz.prog (w1.alloc (.cells #[.int .u8 0, .int .i64 0, .bool false, .int .u8 0, .int .u8 0, .int .u8 0, .int .u8 0, .int .u8 0, .int .i64 0, .int .i64 0, .bool false, .int .u8 0, .int .u8 0, .int .i64 0, .int .i64 0, .bool false, .int .u8 0, .int .i64 0, .bool false, .int .u8 0, .int .u8 0, .int .i64 0, .int .i64 0, .bool false, .int .u8 0, .int .i64 0] tSt)) = .ok () (w1.alloc (.cells (stC pc rc).toArray tSt)) := run_store_fresh rfl (by rw [h26]; rfl) HON.out
  clear b1 T0 HA
  go_upto_region 3 with (first | (refine wpList_load_mid rfl tPl _ rfl w.heap.size 0 rfl pc _ T1.out.rp Tryz.underlying57 rfl HPL.out ?_) | (refine wpList_load_mid rfl tRv _ rfl (w.heap.size + 1) 0 rfl rc _ T1.out.rr Tryz.underlying61 rfl HRL.out ?_) | (refine wpList_buildTo rfl tSt _ rfl (stC pc rc).toArray (by simp only [List.map_toArray, List.map_cons, List.map_nil]; exact HBD.out) ?_))
  have T2 := Lib.hid (Dx.start T1.out (stC pc rc))
  clear hsto h26
  generalize w1.alloc (.cells (stC pc rc).toArray tSt) = w2 at *
  generalize w1.heap.size = S at *
  clear H26 HON T1 HBD
  generalize stC pc rc = sc at *
  go_upto_region 5 with (first | (refine wpList_load_mid rfl tSt _ rfl S 0 rfl sc _ T2.out.rs Tryz.underlying63 rfl HSL.out ?_) | (go_at_call 20; refine (HC.out _).mono ?_; rintro e w3 ⟨rfl, b3⟩))
  have T3 := Lib.hid (T2.out.below b3)
  clear b3 T2 HC hn0 hn7 hd0 hd7
  go_upto_region 6 with (first | (refine wpList_load_mid rfl tRv _ rfl (w.heap.size + 1) 0 rfl rc _ T3.out.x.rr Tryz.underlying61 rfl HRL.out ?_) | (go_at_call 21; refine (HPC.out _).mono ?_; rintro e w4 ⟨A, c, rfl, rows, b4⟩))
  have T4 := Lib.hid (T3.out.below b4)
  clear b4 T3 HPC
  go_upto_region 9 with (first | (refine wpList_load_mid rfl tRv _ rfl (w.heap.size + 1) 0 rfl rc _ T4.out.x.rr Tryz.underlying61 rfl HRL.out ?_) | (go_at_call 22; refine (HUC.out _ T4.out.x.b).mono ?_; rintro e w5 ⟨u, rfl, hu, b5⟩))
  have T5 := Lib.hid (T4.out.below b5)
  have HRW := Lib.hid (rows.below b5)
  have HU := Lib.hid hu
  clear b5 rows hu T4 HUC
  have hL3 := pls_two r
  generalize r.pls = L at *
  go_upto_region 10 with fail
  have L0 := Lib.hid (Lx.start w5)
  change Code.wp _ _ _ _ (w5.alloc (.cells ((bitsOf []).map Value.bool).toArray 69))
  generalize w5.alloc (.cells ((bitsOf []).map Value.bool).toArray 69) = w6 at *
  generalize hU : w5.heap.size = U at *
  have HUE := Lib.hid hU
  clear hU
  go_wp2_with fail
  go_loopg [14] L.length (fun g s14 wr => ∃ i : Nat, s14 = .int .i64 i ∧ i ≤ L.length ∧ g = L.length - i ∧ Lx w5 U (locs (L.take i)) wr)
  case atStart => exact ⟨0, rfl, Nat.zero_le _, rfl, L0.out⟩
  case round =>
    obtain ⟨i, rfl, hi, rfl, hlx⟩ := hrel
    have T7 := Lib.hid hlx
    have i0I : (0 : Int) ≤ (i : Int) := Int.natCast_nonneg _
    have HWB := Lib.hid (show Below w.heap.size w wr from T5.out.x.b.trans (hlx.b.mono (by rw [← HUE.out]; exact T5.out.x.b.size)))
    have HB5 := Lib.hid (show Below w5.heap.size w5 wr from by rw [HUE.out]; exact hlx.b)
    clear hlx
    rcases Nat.lt_or_ge i L.length with hlt | hge
    · have hltI : (i : Int) < (L.length : Int) := by omega
      obtain ⟨⟨l, d, f⟩, hx⟩ : ∃ p, L[i]? = some p := ⟨_, List.getElem?_eq_getElem hlt⟩
      have hok := HOK.out _ (List.mem_of_getElem? hx)
      obtain ⟨n, rfl⟩ : ∃ n : Nat, l = (n : Int) := Int.eq_ofNat_of_zero_le hok.l0
      have hn15 : n ≤ 15 := by have := hok.l1; simp only at this; omega
      have HLT := Lib.hid (show locs (L.take (i + 1)) = locs (L.take i) ++ [(n : Int)] from by rw [List.take_add_one, hx]; simp [locs])
      obtain ⟨g, o, rfl, hg, hrng⟩ := (HRW.out.below HB5.out) i (PlV.c ⟨n, d, f⟩) (by rw [List.getElem?_map, hx]; rfl)
      have HRG := Lib.hid (show ∀ W, Below wr.heap.size wr W → W.rangeAt g (o + i * 3) [.int .i64 (n : Nat), .bool d, .int .u8 f] from fun W hW => range_on' hrng hg hW)
      have HTX := Lib.hid (fun (W : World) (hW : Below w.heap.size w W) => text_c hok (HTB.out W hW))
      have HRD := Lib.hid (fun (W : World) (hW : Below w.heap.size w W) => read_c hok (HTB.out W hW))
      have HOV := Lib.hid (fun (W : World) => over_c hok W)
      clear hrng hx hok
      simp only [PlV.c] at HTX HRD HOV
      generalize placeT (n : Int) d f = tx at *
      go_upto_region 14 with (first | (refine wpList_load_mid rfl tPl _ rfl g (o + i * 3) rfl [.int .i64 (n : Nat), .bool d, .int .u8 f] _ (HRG.out _ (Below.refl _ _)) Tryz.underlying57 rfl plS3 ?_) | (go_at_call 23; refine (HTX.out _ HWB.out).mono ?_; rintro e w8 ⟨rfl, b8⟩))
      have T8 := Lib.hid (T7.out.below b8)
      have HW8 := Lib.hid (HWB.out.trans (b8.mono HWB.out.size))
      have HK8 := Lib.hid b8
      clear b8 T7
      go_upto_region 15 with (go_at_call 24; refine (HRD.out _ HW8.out).mono ?_; rintro e w9 ⟨rfl, b9⟩)
      have b10 := b9.alloc b9.size (.cells #[.int .i64 (n : Nat), .bool d, .int .u8 f] tPl)
      have T10 := Lib.hid (T8.out.below b10)
      have hv : (w9.alloc (.cells #[.int .i64 (n : Nat), .bool d, .int .u8 f] tPl)).heap[w9.heap.size]? = some (.cells #[.int .i64 (n : Nat), .bool d, .int .u8 f] tPl (0, 0)) := at_alloc rfl
      have HK10 := Lib.hid (HK8.out.trans (b10.mono HK8.out.size))
      clear b9 b10 T8
      change Code.wp _ _ _ _ (w9.alloc (.cells #[.int .i64 (n : Nat), .bool d, .int .u8 f] tPl))
      generalize w9.alloc (.cells #[.int .i64 (n : Nat), .bool d, .int .u8 f] tPl) = w10 at *
      generalize w9.heap.size = V at *
      have HV := Lib.hid hv
      clear hv
      refine region_cells [⟨V, 0, none⟩, ⟨V, 1, none⟩, ⟨V, 2, none⟩, ⟨g, o + i * 3, none⟩, ⟨g, o + i * 3 + 1, none⟩, ⟨g, o + i * 3 + 2, none⟩] [(0, true), (1, true), (2, true), (3, true), (4, true), (5, false), (6, true), (7, true), (8, true), (9, true), (10, true)] (by kernel_rfl) (by kernel_rfl) (by decide) (by kernel_rfl) (fun _ _ _ _ _ h => h) ?_
      have v0 : w10.drew.cell? ⟨V, 0, none⟩ = some (.int .i64 (n : Nat)) := box_cell (j := 0) HV.out rfl
      have v1 : w10.drew.cell? ⟨V, 1, none⟩ = some (.bool d) := box_cell (j := 1) HV.out rfl
      have v2 : w10.drew.cell? ⟨V, 2, none⟩ = some (.int .u8 f) := box_cell (j := 2) HV.out rfl
      have g0 : w10.drew.cell? ⟨g, o + i * 3, none⟩ = some (.int .i64 (n : Nat)) := HRG.out _ HK10.out.drew 0 _ rfl
      have g1 : w10.drew.cell? ⟨g, o + i * 3 + 1, none⟩ = some (.bool d) := HRG.out _ HK10.out.drew 1 _ rfl
      have g2 : w10.drew.cell? ⟨g, o + i * 3 + 2, none⟩ = some (.int .u8 f) := HRG.out _ HK10.out.drew 2 _ rfl
      iterate 5 (refine SeqC.take (v := ?_) rfl (by rfl) (fun W hW => ?_) ?_; rotate_left; (focus (have z0 := hW.get (by simp) v0; have z1 := hW.get (by simp) v1; have z2 := hW.get (by simp) v2; have z3 := hW.get (by simp) g0; have z4 := hW.get (by simp) g1; have z5 := hW.get (by simp) g2; go_simp; with_reducible rfl)); simp only [Act.put, List.setIfInBounds_toArray, List.set_cons_zero, List.set_cons_succ])
      refine SeqC.call (f := ?_) (args := ?_) rfl (by rfl) ?_ ?_
      rotate_left 2
      · (go_simp; first | with_reducible rfl | (refine ⟨?_, ?_⟩ <;> with_reducible rfl))
      refine (HOV.out w10.drew).mono ?_
      rintro e w12 ⟨rfl, b12⟩
      refine ⟨_, rfl, Cells.of_ext b12 (by have h1 := (Array.getElem?_eq_some_iff.1 HV.out).1; have h2 := Nat.lt_of_lt_of_le hg HK10.out.size; simp; omega), ?_⟩
      simp only [Act.put, List.setIfInBounds_toArray, List.set_cons_zero, List.set_cons_succ]
      iterate 5 (refine SeqC.take (v := ?_) rfl (by rfl) (fun W hW => ?_) ?_; rotate_left; (focus (go_simp; with_reducible rfl)); simp only [Act.put, List.setIfInBounds_toArray, List.set_cons_zero, List.set_cons_succ])
      refine SeqC.done ?_
      have T12 := Lib.hid ((show Lx w5 U (locs (L.take i)) w10.drew from ⟨T10.out.b.drew, T10.out.u⟩).below b12)
      have HK12 := Lib.hid (HK10.out.drew.trans (b12.mono HK10.out.drew.size))
      have HV12 := Lib.hid ((b12.block V (Array.getElem?_eq_some_iff.1 HV.out).1).trans HV.out)
      clear v0 v1 v2 g0 g1 g2 b12 T10 HV HK10
      go_upto_region 16 with fail
      refine region_cells [⟨V, 0, none⟩, ⟨V, 1, none⟩, ⟨V, 2, none⟩, ⟨g, o + i * 3, none⟩, ⟨g, o + i * 3 + 1, none⟩, ⟨g, o + i * 3 + 2, none⟩] [(0, true), (1, true), (2, true), (3, true), (4, true), (5, true), (6, true), (7, true), (8, true), (9, true), (10, true), (11, true), (12, true), (13, true), (14, true), (15, true), (16, true), (17, true), (18, true), (19, true), (20, true), (21, true)] (by kernel_rfl) (by kernel_rfl) (by decide) (by kernel_rfl) (fun _ _ _ _ _ h => h) ?_
      have v0 : w12.drew.cell? ⟨V, 0, none⟩ = some (.int .i64 (n : Nat)) := box_cell (j := 0) HV12.out rfl
      have v1 : w12.drew.cell? ⟨V, 1, none⟩ = some (.bool d) := box_cell (j := 1) HV12.out rfl
      have v2 : w12.drew.cell? ⟨V, 2, none⟩ = some (.int .u8 f) := box_cell (j := 2) HV12.out rfl
      have g0 : w12.drew.cell? ⟨g, o + i * 3, none⟩ = some (.int .i64 (n : Nat)) := HRG.out _ HK12.out.drew 0 _ rfl
      have g1 : w12.drew.cell? ⟨g, o + i * 3 + 1, none⟩ = some (.bool d) := HRG.out _ HK12.out.drew 1 _ rfl
      have g2 : w12.drew.cell? ⟨g, o + i * 3 + 2, none⟩ = some (.int .u8 f) := HRG.out _ HK12.out.drew 2 _ rfl
      iterate 22 (refine SeqC.take (v := ?_) rfl (by rfl) (fun W hW => ?_) ?_; rotate_left; (focus (have z0 := hW.get (by simp) v0; have z1 := hW.get (by simp) v1; have z2 := hW.get (by simp) v2; have z3 := hW.get (by simp) g0; have z4 := hW.get (by simp) g1; have z5 := hW.get (by simp) g2; go_simp; with_reducible rfl)); simp only [Act.put, List.setIfInBounds_toArray, List.set_cons_zero, List.set_cons_succ])
      refine SeqC.done ?_
      clear v0 v1 v2 g0 g1 g2
      have T13 := Lib.hid (show Lx w5 U (locs (L.take i)) w12.drew from ⟨T12.out.b.drew, T12.out.u⟩)
      have v0 : w12.drew.cell? ⟨V, 0, none⟩ = some (.int .i64 (n : Nat)) := box_cell (j := 0) HV12.out rfl
      obtain ⟨ub, hub⟩ := T13.out.cell hn15
      have hfz : w12.drew.frozen? ⟨U, n, none⟩ = false := frozen_none T13.out.u n
      have hand := and15' (show n < 16 by omega)
      have hnI : (n : Int) < 16 := by omega
      have hn0I : (0 : Int) ≤ (n : Int) := Int.natCast_nonneg _
      have HN15 := Lib.hid hn15
      clear T12 hn15
      go_wp2_with fail
      go_roundg (L.length - (i + 1))
      case measure => omega
      case rel => exact ⟨i + 1, by simp, by omega, rfl, by rw [HLT.out]; exact T13.out.put HN15.out⟩
    · obtain rfl : i = L.length := by omega
      rw [List.take_length] at T7
      have HU7 := Lib.hid (HU.out.below HB5.out)
      have T8 := Lib.hid (T5.out.below HB5.out)
      go_upto_region 21 with (first | (refine wpList_load_mid rfl 69 _ rfl U 0 rfl ((bitsOf (locs L)).map Value.bool) _ T7.out.rng Tryz.underlying69 rfl (by rw [List.length_map, bits_len]; exact b16R) ?_) | (go_at_call 27; refine (increasing_any (bitsOf (locs L)) (bits_len _) _).mono ?_; rintro e w11 ⟨v, rfl, hown, b11⟩) | (go_at_call 26; refine (sameI.same_ints (HU7.out.below b11) (sameI.Ints.own hown)).mono ?_; rintro e w12 ⟨rfl, b12⟩))
      have T12 := Lib.hid ((T8.out.below b11).below b12)
      clear hown b11 b12 T8 HU7 HB5 HWB T7 HU
      obtain ⟨k, rest, hk, hcase⟩ := HOW.out
      have ck := box_cell (j := 0) T12.out.x.r (show rc[0]? = some (.int .u8 k) by rw [hk]; rfl)
      clear hk
      rcases hcase with ⟨ho, hk4, hk5⟩ | rfl | rfl
      focus
        (
          have hJ := HJ.out ho
          have HJO := Lib.hid hJ
          clear hJ ho
          generalize (r.ops.map OpV.c) = els at *
          go_upto_region 23 with (first | (refine wpList_load_mid rfl tRv _ rfl (w.heap.size + 1) 0 rfl rc _ T12.out.x.rr Tryz.underlying61 rfl HRL.out ?_) | (go_at_call 28; refine (HOC.out _).mono ?_; rintro e w13 ⟨A2, c2, rfl, rows2, b13, hcc, hc2⟩))
          have T13 := Lib.hid (T12.out.below b13)
          have HJJ := Lib.hid (fun (W : World) (hW : RowsAt W A2 5 els) => HJO.out A2 c2 W hW hcc hc2)
          clear T12 b13 HJO hcc hc2 ck
          go_upto_region 24 with (refine wpList_load_mid rfl tPl _ rfl w.heap.size 0 rfl pc _ T13.out.x.rp Tryz.underlying57 rfl HPL.out ?_; rw [HZ.out])
          have T14 := Lib.hid (Jx.start T13.out rows2 (jmC A2 els.length c2 pc))
          have hjc : jmC A2 els.length c2 pc = [.int .u8 4, .int .u8 0, .int .i64 0, .int .i64 0, .bool false, .int .u8 0, .int .i64 0, .int .i64 0, .int .i64 0, .slice A2 els.length c2, .int .i64 q.l, .bool q.d, .int .u8 q.f] := by rw [HZ.out]; rfl
          have HJL := Lib.hid (show (Tryz.prog.info? 81).map (·.size) = some (jmC A2 els.length c2 pc).length by rw [hjc]; exact jmS)
          rw [← hjc]
          clear hjc rows2 T13
          change Code.wp _ _ _ _ (w13.alloc (.cells (jmC A2 els.length c2 pc).toArray 81))
          generalize w13.alloc (.cells (jmC A2 els.length c2 pc).toArray 81) = w14 at *
          generalize w13.heap.size = J at *
          generalize jmC A2 els.length c2 pc = jc at *
          generalize stU (stOf sc) = LU at *
          generalize stM (stOf sc) = LM at *
          generalize setI sc = SX at *
          go_upto_region 25 with (first | (refine wpList_load_mid rfl tSt _ rfl S 0 rfl sc _ T14.out.rs Tryz.underlying63 rfl HSL.out ?_) | (go_at_call 29; refine (HSU.out _ T14.out.d.x.b).mono ?_; rintro e w15 ⟨u1, rfl, i1, b15⟩))
          have T15 := Lib.hid (T14.out.below b15)
          go_upto_region 26 with (first | (refine wpList_load_mid rfl 81 _ rfl J 0 rfl jc _ T15.out.rj Tryz.underlying81 rfl HJL.out ?_) | (go_at_call 30; refine ((HJJ.out _ T15.out.rows).1).mono ?_; rintro e w16 ⟨u2, rfl, i2, b16⟩))
          have T16 := Lib.hid (T15.out.below b16)
          have j1 := Lib.hid (i1.below b16)
          clear i1 b15 b16 T14 T15
          go_upto_region 27 with (first | (refine wpList_load_mid rfl tSt _ rfl S 0 rfl sc _ T16.out.rs Tryz.underlying63 rfl HSL.out ?_) | (go_at_call 31; refine (HSM.out _ T16.out.d.x.b).mono ?_; rintro e w17 ⟨u3, rfl, i3, b17⟩))
          have T17 := Lib.hid (T16.out.below b17)
          have k1 := Lib.hid (j1.out.below b17)
          have k2 := Lib.hid (i2.below b17)
          clear j1 i2 b17 T16
          go_upto_region 28 with (first | (refine wpList_load_mid rfl 81 _ rfl J 0 rfl jc _ T17.out.rj Tryz.underlying81 rfl HJL.out ?_) | (go_at_call 32; refine ((HJJ.out _ T17.out.rows).2.1).mono ?_; rintro e w18 ⟨u4, rfl, i4, b18⟩))
          have T18 := Lib.hid (T17.out.below b18)
          have l1 := Lib.hid (k1.out.below b18)
          have l2 := Lib.hid (k2.out.below b18)
          have l3 := Lib.hid (i3.below b18)
          have l4 := Lib.hid i4
          clear k1 k2 i3 i4 b18 T17
          go_upto_region 29 with (first | (refine wpList_load_mid rfl tSt _ rfl S 0 rfl sc _ T18.out.rs Tryz.underlying63 rfl HSL.out ?_) | (go_at_call 33; refine (HSS.out _).mono ?_; rintro e w19 ⟨rfl, b19⟩))
          have T19 := Lib.hid (T18.out.below b19)
          have m1 := Lib.hid (l1.out.below b19)
          have m2 := Lib.hid (l2.out.below b19)
          have m3 := Lib.hid (l3.out.below b19)
          have m4 := Lib.hid (l4.out.below b19)
          clear l1 l2 l3 l4 b19 T18
          go_upto_region 30 with (first | (refine wpList_load_mid rfl 81 _ rfl J 0 rfl jc _ T19.out.rj Tryz.underlying81 rfl HJL.out ?_) | (go_at_call 34; refine ((HJJ.out _ T19.out.rows).2.2.1).mono ?_; rintro e w20 ⟨rfl, b20⟩))
          have T20 := Lib.hid (T19.out.below b20)
          have n1 := Lib.hid (m1.out.below b20)
          have n2 := Lib.hid (m2.out.below b20)
          have n3 := Lib.hid (m3.out.below b20)
          have n4 := Lib.hid (m4.out.below b20)
          clear m1 m2 m3 m4 b20 T19
          go_upto_region 32 with (first | (refine want_c (by rfl) (wp_load_mid 81 _ rfl J 0 rfl jc _ T20.out.rj Tryz.underlying81 rfl HJL.out ?_)) | (go_at_call 35; refine ((HJJ.out _ T20.out.rows).2.2.2).mono ?_; rintro e w21 ⟨rfl, b21⟩) | (go_at_call 26; refine (sameI.same_ints ((n3.out.below b21).below b22) ((n4.out.below b21).below b22)).mono ?_; rintro e w23 ⟨rfl, b23⟩) | (go_at_call 26; refine (sameI.same_ints (n1.out.below b21) (n2.out.below b21)).mono ?_; rintro e w22 ⟨rfl, b22⟩))
          have T30 := Lib.hid (((T20.out.below b21).below b22).below b23).d
          clear n1 n2 n3 n4 b21 b22 b23 T20 HJJ
        )
      rotate_left
      all_goals (try (have T30 := T12; clear T12; go_upto_region 32 with fail))
      all_goals (
        go_upto_region 33 with (go_at_call 36; refine (HOF.out _).mono ?_; rintro e w31 ⟨rfl, b31⟩)
        have b32 := b31.alloc b31.size (.cells #[.int .u8 (p8.1 : Nat), .int .u8 (p8.2 : Nat)] 88)
        have T32 := Lib.hid (T30.out.below b32)
        have hy : (w31.alloc (.cells #[.int .u8 (p8.1 : Nat), .int .u8 (p8.2 : Nat)] 88)).heap[w31.heap.size]? = some (.cells #[.int .u8 (p8.1 : Nat), .int .u8 (p8.2 : Nat)] 88 (0, 0)) := at_alloc rfl
        clear b31 b32 T30
        change Code.wp _ _ _ _ (w31.alloc (.cells #[.int .u8 (p8.1 : Nat), .int .u8 (p8.2 : Nat)] 88))
        generalize w31.alloc (.cells #[.int .u8 (p8.1 : Nat), .int .u8 (p8.2 : Nat)] 88) = w32 at *
        generalize w31.heap.size = Y at *
        have HY := Lib.hid hy
        clear hy
        go_upto_region 36 with (first | (refine wpList_load_mid rfl 88 _ rfl Y 0 rfl [.int .u8 (p8.1 : Nat), .int .u8 (p8.2 : Nat)] _ (range_block (X := []) (Z := []) HY.out (by simp)) Tryz.underlying88 rfl tyS ?_) | (go_at_call 37; refine (HCF.out _).mono ?_; rintro e w33 ⟨rfl, b33⟩))
        have T33 := Lib.hid (T32.out.below b33)
        clear b33 T32 HY
        have cp := box_cell (j := 0) T33.out.x.p (show pc[0]? = some (.int .i64 q.l) by rw [HZ.out]; rfl)
        go_upto_region 37 with (first | (at_builtin; refine wpList_appendRow rfl _ _ 50 rfl w33.heap.size 5 (.int .u8 0) 1 Tryz.underlying50 u8row rfl _ _ _ rfl (owns_below ho34 b35) A35 c35 _ .u8 [code] rfl hr35 (by simp) (by decide) (b34.trans (b35.mono b34.size)) (Nat.le_trans b34.size b35.size) ?_; intro v36 w36 ho36 b36 _) | (go_at_call 38; refine (HNY.out w34).mono ?_; rintro e w35 ⟨A35, c35, rfl, _, _, hr35, b35, _⟩) | (go_at_call 38; refine (HNX.out w33).mono ?_; rintro e w34 ⟨A34, c34, rfl, _, _, _, b34, ho34⟩))
        obtain ⟨A36, c36, rfl, hc36, _, hr36, _⟩ := Row.of_own (xs := [q.l, code]) ho36
        have T36 := Lib.hid (T33.out.below b36)
        have cq := box_cell (j := 0) T36.out.x.p (show pc[0]? = some (.int .i64 q.l) by rw [HZ.out]; rfl)
        have HG36 := Lib.hid (HG.out w36 A36 c36 hr36 hc36)
        clear cp T33 b36 hr36 hc36 ho36 b34 b35 ho34 hr35
        go_upto_region 38 with (go_at_call 39; refine (HG36.out.1).mono ?_; rintro e w37 ⟨rfl, rfl⟩)
        go_upto_region 39 with (go_at_call 39; refine (HG36.out.2).mono ?_; rintro e w38 ⟨rfl, rfl⟩)
        go_wp2_with fail
        go_ret
        exact ⟨rfl, T36.out.x.b⟩)
end Go.Proofs.YtnhnelgkcldkbaaGreatDoor.enc
