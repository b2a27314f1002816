/- pawnshopref12.Lines: the lines of a sound function, as a new list of strings; by the contracts of what it calls. -/
import Derived.Test.YtglmonlofejcgaaGreatDoorPgQ
set_option maxHeartbeats 8000000
set_option maxRecDepth 100000
open List renaming setIfInBounds_toArray → apu, set_cons_zero → apv, set_cons_succ → apw, getElem?_eq_getElem → apx, length_append → apy, getD_eq_getElem?_getD → apz, mem_of_getElem? → apC, getElem?_map → apE, not_mem_nil → apF, mem_cons → apG, length_cons → apJ, length_map → apK
open Int renaming natCast_nonneg → apA
open Nat renaming lt_of_lt_of_le → apB, le_refl → apD, lt_or_ge → apH, zero_le → apI
set_option linter.unusedVariables false
namespace Go.Proofs.YtglmonlofejcgaaGreatDoor
namespace txt
open Go.RowKit Am loan bld
def Dj (ls : List (List UInt8)) : List Value := ls.map fun l => Value.string ⟨l.toArray⟩
theorem zu (ls : List (List UInt8)) (l : List UInt8) : Dj (ls ++ [l]) = Dj ls ++ [.string ⟨l.toArray⟩] := by simp [Dj]
theorem aip : (Tryz.prog.info? 9).map (fun i => (i.zero, i.size, i.bytes)) = some (some (.string ⟨#[]⟩), 1, 16) := by kernel_rfl
theorem afF {w : World} {base H : Nat} {e : TypeId} {u : Value} (hg : w.heap[H]? = some (.cells #[u] e (0, 0))) (hb : base <= H) : w.ownsRow base e 1 (.slice (some ⟨H, 0, none⟩) 1 1) 1 [u] :=
 ⟨by simp, .inr ⟨H, 1, #[u], rfl, hb, hg, apD _, by simp [maxLen], by simp, by simp⟩⟩
def OW : List (List UInt8) := [[105, 110, 116], [112, 97, 105, 114], [38, 105, 110, 116], [38, 112, 97, 105, 114], [38, 109, 117, 116, 32, 105, 110, 116], [38, 109, 117, 116, 32, 112, 97, 105, 114], [42, 105, 110, 116], [42, 112, 97, 105, 114]]
structure YC (w0 : World) (D : FnD) : Prop where
 nu : ∀ n : Int, -9223372036854775808 <= n -> n <= 9223372036854775807 -> ∀ W, Below w0.heap.size w0 W -> Calls Tryz.prog 83 #[.int .i64 n] W (bld.Ans W (.string ⟨(bM n).toArray⟩))
 nm : ∀ W, Calls Tryz.prog 84 #[] W fun e W' => ∃ g, e = .returned (.slice (some ⟨g, 0, none⟩) 8 8) /\ g < W'.heap.size /\ (∀ i s, OW[i]? = some s -> W'.cell? ⟨g, i, none⟩ = some (.string ⟨s.toArray⟩)) /\ Below W.heap.size W W'
 ty : ∀ t ∈ D.ls, ∃ j : Nat, OW[j]? = some (pI t) /\ ∀ W, Below w0.heap.size w0 W -> Calls Tryz.prog 85 #[.agg t.toArray] W (bld.Ans W (.int .i64 (j : Nat)))
 st : ∀ b ∈ D.bs, ∀ s ∈ b.st, ∀ W, Below w0.heap.size w0 W -> Calls Tryz.prog 86 #[.agg s.toArray] W (bld.Ans W (.string ⟨(stT (uz s)).toArray⟩))
 jm : ∀ b ∈ D.bs, ∀ W, Below w0.heap.size w0 W -> Calls Tryz.prog 87 #[.agg (b.pre ++ b.a :: b.post).toArray] W (bld.Ans W (.string ⟨(kD b.pre b.ops b.post).toArray⟩))
structure H9 (w1 : World) (s : Value) (ls : List (List UInt8)) (W : World) : Prop where
 o : W.ownsRow w1.heap.size tS1 1 s ls.length (Dj ls)
 b : Below w1.heap.size w1 W
section
variable {w1 W W' : World} {s : Value} {ls : List (List UInt8)}
theorem H9.below (h : H9 w1 s ls W) (hb : Below W.heap.size W W') : H9 w1 s ls W' := ⟨Oe h.o hb, h.b.trans (hb.mono h.b.size)⟩
theorem H9.drew (h : H9 w1 s ls W) : H9 w1 s ls W.drew := ⟨h.o, h.b.drew⟩
end
theorem aku {w : World} {v : Value} {D : FnD} {n : Int} (hF : aV w v D) (hL : Lim D) (hC : YC w D) (hn : -9223372036854775808 <= n /\ n <= 9223372036854775807) :
  Calls Tryz.prog 45 #[v, .int .i64 n] w fun e w' => ∃ s, e = .returned s /\ w'.ownsRow w.heap.size tS1 1 s (lg D n).length (Dj (lg D n)) /\ Below w.heap.size w w' := by
 obtain ⟨A, c, eb, hmb, hrb⟩ := aV.blks hF
 obtain ⟨Al, cl, el, hml, hrl⟩ := cZ.rows hF.locals (by decide)
 obtain ⟨gb, ob, rfl, hgb, hrb⟩ := nY hrb (by rw [apK]; exact hL.b0)
 obtain ⟨gl, ol, rfl, hgl, hrl⟩ := nY hrl hL.l0
 obtain ⟨hp0, hp1⟩ : -9223372036854775808 <= D.p /\ D.p <= 9223372036854775807 := by
  obtain ⟨p, e, hp⟩ := hF.pk
  cases e
  exact hp
 rw [hF.eq, eb, el]
 have hdn : (bM n).length <= 21 := dY n
 have hdp : (bM D.p).length <= 21 := dY D.p
 have hnl := hL.l
 have hnb := hL.b
 obtain ⟨w1, hw1⟩ : ∃ w1, w1 = w.alloc (.cells #[.int .i64 D.p, .bool D.u, .slice (some ⟨gl, ol, none⟩) D.ls.length cl, .slice (some ⟨gb, ob, none⟩) D.bs.length c] tFn) := ⟨_, rfl⟩
 have HB1 := Lib.hid (show Below w.heap.size w w1 from by rw [hw1]; exact (Below.refl _ _).alloc (apD _) _)
 have HY1 := Lib.hid (show Box w1 w.heap.size tFn (.int .i64 D.p) (.bool D.u) (.slice (some ⟨gl, ol, none⟩) D.ls.length cl) (.slice (some ⟨gb, ob, none⟩) D.bs.length c) from by rw [hw1]; exact Box.mk rfl)
 have HF := Lib.hid hF
 have HL := Lib.hid hL
 have HC := Lib.hid hC
 have HRB := Lib.hid hrb
 have HRL := Lib.hid hrl
 clear hF hL hC hrb hrl eb el
 generalize hu : D.u = u at hw1 HY1 |-
 have HU := Lib.hid hu
 clear hu
 go_enter Tryz.func45, Tryz.ntmps45
 go_upto_region 1 with fail
 rw [<- hw1]
 clear hw1
 refine bZ [⟨w.heap.size, 0, none⟩] [(0, true), (4, true), (5, true), (1, false), (2, true), (3, true), (6, false), (7, true), (8, true), (9, true)] (by kernel_rfl) (by kernel_rfl) (by decide) (by kernel_rfl) (fun _ _ _ _ _ h => h) ?_
 have HB2 := Lib.hid HB1.out.drew
 have HN1 := Lib.hid (show Below w1.heap.size w1 w1.drew from (Below.refl _ _).drew)
 have HY2 := Lib.hid (show Box w1.drew w.heap.size tFn (.int .i64 D.p) (.bool u) (.slice (some ⟨gl, ol, none⟩) D.ls.length cl) (.slice (some ⟨gb, ob, none⟩) D.bs.length c) from HY1.out)
 generalize w1.drew = wd at HB2 HY2 HN1 |-
 obtain ⟨y0, y1, y2, y3⟩ := HY2.out.cells
 iterate 3 (refine SeqC.take (v := ?_) rfl (by rfl) (fun W hW => ?_) ?_; rotate_left; (focus (have zy0 := hW.get (by simp) y0; go_simp; first | done | with_reducible rfl | (refine if_neg ?_; omega) | (refine if_neg ?_; simp; omega) | trace_state)); simp only [Act.put, apu, apv, apw])
 refine SeqC.call (f := ?_) (args := ?_) rfl (by rfl) ?_ ?_
 rotate_left 2
 ·(go_simp; first | with_reducible rfl | (refine ⟨?_, ?_⟩ <;> with_reducible rfl))
 refine (HC.out.nu n hn.1 hn.2 _ HB2.out).mono ?_
 rintro e w2 ⟨rfl, b2⟩
 have HB3 := Lib.hid (HB2.out.trans (b2.mono HB2.out.size))
 have HY3 := Lib.hid (HY2.out.below b2)
 have HN2 := Lib.hid (HN1.out.trans (b2.mono HN1.out.size))
 refine ⟨_, rfl, (by intro p hp; simp only [apG, apF, or_false] at hp; subst hp; exact HY3.out.cells.1.trans HY2.out.cells.1.symm), ?_⟩
 simp only [Act.put, apu, apv, apw]
 clear y0 y1 y2 y3 b2 HB2 HY2
 iterate 2 (refine SeqC.take (v := ?_) rfl (by rfl) (fun W hW => ?_) ?_; rotate_left; (focus (go_simp; first | done | with_reducible rfl | (refine if_neg ?_; omega) | (refine if_neg ?_; simp; omega) | trace_state)); simp only [Act.put, apu, apv, apw])
 refine SeqC.call (f := ?_) (args := ?_) rfl (by rfl) ?_ ?_
 rotate_left 2
 ·(go_simp; first | with_reducible rfl | (refine ⟨?_, ?_⟩ <;> with_reducible rfl))
 refine (HC.out.nu D.p hp0 hp1 _ HB3.out).mono ?_
 rintro e w3 ⟨rfl, b3⟩
 have HB4 := Lib.hid (HB3.out.trans (b3.mono HB3.out.size))
 have HY4 := Lib.hid (HY3.out.below b3)
 have HN3 := Lib.hid (HN2.out.trans (b3.mono HN2.out.size))
 refine ⟨_, rfl, (by intro p hp; simp only [apG, apF, or_false] at hp; subst hp; exact HY4.out.cells.1.trans HY3.out.cells.1.symm), ?_⟩
 simp only [Act.put, apu, apv, apw]
 clear b3 HB3 HY3
 refine SeqC.take (v := ?_) rfl (by rfl) (fun W hW => ?_) ?_; rotate_left; (focus (go_simp; first | done | with_reducible rfl | (refine if_neg ?_; omega) | (refine if_neg ?_; simp; omega) | trace_state)); simp only [Act.put, apu, apv, apw]
 refine SeqC.take (v := ?_) rfl (by rfl) (fun W hW => ?_) ?_; rotate_left; (focus (go_simp; first | done | with_reducible rfl | (refine if_neg ?_; omega) | (refine if_neg ?_; simp; omega) | trace_state)); simp only [Act.put, apu, apv, apw]
 refine SeqC.take (v := ?_) rfl (by rfl) (fun W hW => ?_) ?_; rotate_left; (focus (go_simp; first | done | with_reducible rfl | (refine if_neg ?_; omega) | (refine if_neg ?_; simp; omega) | trace_state)); simp only [Act.put, apu, apv, apw]
 refine SeqC.done ?_
 obtain ⟨y0, y1, y2, y3⟩ := HY4.out.cells
 have HN4 := Lib.hid (HB4.out.trans ((Below.refl _ _).alloc (apD _) (.cells #[.string ⟨(lN n D.p u).toArray⟩] tS1) |>.mono HB4.out.size))
 generalize hS : (({ data := #[102, 110, 32] } : ByteArray) ++ { data := (bM n).toArray } ++ { data := #[32, 40] } ++ { data := (bM D.p).toArray } ++ { data := #[41] }) = S
 have hS2 : S = ⟨([102, 110, 32] ++ (bM n ++ ([32, 40] ++ (bM D.p ++ [41])))).toArray⟩ := by
  rw [<- hS]
  apply ByteArray.ext
  simp
 have hSz : S.size <= 100 := by
  rw [hS2]
  simp only [ByteArray.size, List.size_toArray, apy, apJ, List.length_nil]
  omega
 have hSc : ¬ 9223372036854775807 < S.size + 7 := by omega
 have HS2 := Lib.hid hS2
 clear hS hS2
 go_upto_if 21 with fail
 go_cut [5] (fun s5 wx => s5 = .string ⟨(lN n D.p u).toArray⟩ /\ wx = w3)
 case first =>
  cases u
  ·go_wp2_with fail
   go_meet
   exact ⟨by rw [HS2.out]; simp [lN, Jj], rfl⟩
  ·go_wp2_with fail
   go_meet
   exact ⟨by rw [HS2.out]; congr 1; apply ByteArray.ext; simp [lN, Jj], rfl⟩
 obtain ⟨rfl, rfl⟩ := hcut
 clear y0 y1 y2 y3 hSc hSz HS2
 go_upto_region 5 with fail
 have HY := Lib.hid HY1.out
 have hYlt := HY1.out.lt
 have hw0 : w.heap.size <= w1.heap.size := HB1.out.size
 have HL0 := Lib.hid (show H9 w1 (.slice (some ⟨wc.heap.size, 0, none⟩) 1 1) (wJ D n 0) (wc.alloc (.cells #[.string ⟨(lN n D.p u).toArray⟩] tS1)) from ⟨by rw [Gt, HU.out]; exact afF (aX rfl) HN3.out.size, HN3.out.trans ((Below.refl _ _).alloc HN3.out.size _)⟩)
 generalize wc.alloc (.cells #[.string ⟨(lN n D.p u).toArray⟩] tS1) = w4 at HL0 |-
 clear HN4 HN3 HN2 HN1 HB4 HY4
 go_wp2_with fail
 go_loopg [6, 7] D.ls.length (fun g s6 s7 w8 => ∃ i : Nat, s7 = .int .i64 i /\ i <= D.ls.length /\ g = D.ls.length - i /\ H9 w1 s6 (wJ D n i) w8)
 case atStart => exact ⟨0, rfl, apI _, rfl, HL0.out⟩
 case round =>
  clear HL0
  obtain ⟨i, rfl, hi, rfl, hnow⟩ := hrel
  have HNT := Lib.hid hnow
  have HO := Lib.hid (HB1.out.trans (hnow.b.mono hw0))
  obtain ⟨q0, q1, q2, q3⟩ := (HY.out.below hnow.b).cells
  clear hnow
  have h0I : (0 : Int) <= (i : Int) := apA _
  rcases apH i D.ls.length with hlt | hge
  ·have hltI : (i : Int) < (D.ls.length : Int) := by omega
   obtain ⟨t, ht⟩ : ∃ t, D.ls[i]? = some t := ⟨_, apx hlt⟩
   have htm := apC ht
   have hrng := dX (HRL.out i t ht) hgl HO.out
   obtain ⟨k, m, rfl⟩ : ∃ k m : Int, t = [.int .u8 k, .int .u8 m] := by
    have hkt := HF.out.lkd t htm
    match t, hkt with
    | [_, _], ⟨⟨a, rfl, _⟩, ⟨b, rfl, _⟩, _⟩ => exact ⟨a, b, rfl⟩
   obtain ⟨j, hj, hty⟩ := HC.out.ty _ htm
   have HTI := Lib.hid (show D.ls.getD i [] = [.int .u8 k, .int .u8 m] from by rw [apz, ht]; rfl)
   have hj8 : j < 8 := (List.getElem?_eq_some_iff.1 hj).1
   have hj8I : (j : Int) < 8 := by omega
   have h0J : (0 : Int) <= (j : Int) := apA _
   have HTY := Lib.hid hty
   have HJ := Lib.hid hj
   have hdi : (bM (i : Nat)).length <= 21 := dY _
   have hdt := Y3 [.int .u8 k, .int .u8 m]
   have p0 := hrng 0 _ rfl
   have p1 := hrng 1 _ rfl
   simp only [Nat.add_zero] at p0
   have hcnt : (wJ D n i).length <= 17 := by simp [wJ, qH]; omega
   clear ht hrng htm hty hj
   go_upto_region 8 with fail
   refine bZ [⟨w.heap.size, 2, none⟩, ⟨gl, ol + i * 2, none⟩, ⟨gl, ol + i * 2 + 1, none⟩] [(0, true), (1, true), (6, true), (7, true), (8, true), (9, true), (10, true), (2, false), (3, true), (4, true), (5, false), (11, false), (12, true), (13, false), (14, true), (15, false), (16, false), (17, true)] (by kernel_rfl) (by kernel_rfl) (by decide) (by kernel_rfl) (fun _ _ _ _ _ h => h) ?_
   have HN0 := Lib.hid HNT.out.drew
   have q2 : wr.drew.cell? ⟨w.heap.size, 2, none⟩ = _ := q2
   have p0 : wr.drew.cell? ⟨gl, ol + i * 2, none⟩ = _ := p0
   have p1 : wr.drew.cell? ⟨gl, ol + i * 2 + 1, none⟩ = _ := p1
   generalize wr.drew = wd at HN0 q2 p0 p1 |-
   have hall : ∀ p ∈ ([⟨w.heap.size, 2, none⟩, ⟨gl, ol + i * 2, none⟩, ⟨gl, ol + i * 2 + 1, none⟩] : List Addr), p.block < w1.heap.size := by
    intro p hp
    simp only [apG, apF, or_false] at hp
    rcases hp with rfl | rfl | rfl
    ·exact hYlt
    ·show gl < w1.heap.size; omega
    ·show gl < w1.heap.size; omega
   have HALL := Lib.hid hall
   clear hall q0 q1 q3
   iterate 7 (refine SeqC.take (v := ?_) rfl (by rfl) (fun W hW => ?_) ?_; rotate_left; (focus (have zq2 := hW.get (by simp) q2; have zp0 := hW.get (by simp) p0; have zp1 := hW.get (by simp) p1; go_simp; first | done | with_reducible rfl | (refine if_neg ?_; omega) | (refine if_neg ?_; simp; omega) | trace_state)); simp only [Act.put, apu, apv, apw])
   clear q2 p0 p1
   refine SeqC.call (f := ?_) (args := ?_) rfl (by rfl) ?_ ?_
   rotate_left 2
   ·(go_simp; first | with_reducible rfl | (refine ⟨?_, ?_⟩ <;> with_reducible rfl))
   refine (HC.out.nu (i : Nat) (by omega) (by omega) _ (HB1.out.trans (HN0.out.b.mono hw0))).mono ?_
   rintro e wa ⟨rfl, ba⟩
   refine ⟨_, rfl, Cells.lX ba (fun p hp => apB (HALL.out p hp) HN0.out.b.size), ?_⟩
   simp only [Act.put, apu, apv, apw]
   have HN1 := Lib.hid (HN0.out.below ba)
   clear ba
   iterate 2 (refine SeqC.take (v := ?_) rfl (by rfl) (fun W hW => ?_) ?_; rotate_left; (focus (go_simp; first | done | with_reducible rfl | (refine if_neg ?_; omega) | (refine if_neg ?_; simp; omega) | trace_state)); simp only [Act.put, apu, apv, apw])
   refine SeqC.call (f := ?_) (args := ?_) rfl (by rfl) ?_ ?_
   rotate_left 2
   ·(go_simp; first | with_reducible rfl | (refine ⟨?_, ?_⟩ <;> with_reducible rfl))
   refine (HC.out.nm _).mono ?_
   rintro e wb ⟨g, rfl, hg, hnames, bb⟩
   refine ⟨_, rfl, Cells.lX bb (fun p hp => apB (HALL.out p hp) HN1.out.b.size), ?_⟩
   simp only [Act.put, apu, apv, apw]
   have HN2 := Lib.hid (HN1.out.below bb)
   have HNM := Lib.hid hnames
   clear bb hnames
   refine SeqC.call (f := ?_) (args := ?_) rfl (by rfl) ?_ ?_
   rotate_left 2
   ·(go_simp; first | with_reducible rfl | (refine ⟨?_, ?_⟩ <;> with_reducible rfl))
   refine (HTY.out _ (HB1.out.trans (HN2.out.b.mono hw0))).mono ?_
   rintro e we ⟨rfl, be⟩
   refine ⟨_, rfl, Cells.lX be (fun p hp => apB (HALL.out p hp) HN2.out.b.size), ?_⟩
   simp only [Act.put, apu, apv, apw]
   have HN3 := Lib.hid (HN2.out.below be)
   have cj : we.cell? ⟨g, j, none⟩ = some (.string ⟨(pI [.int .u8 k, .int .u8 m]).toArray⟩) := (be.cell (p := ⟨g, j, none⟩) hg).trans (HNM.out j _ HJ.out)
   clear be
   refine SeqC.take (v := ?_) rfl (by rfl) (fun W hW => ?_) ?_; rotate_left; (focus (go_simp; first | done | with_reducible rfl | (refine if_neg ?_; omega) | (refine if_neg ?_; simp; omega) | trace_state)); simp only [Act.put, apu, apv, apw]
   refine SeqC.val (v := .string ⟨(pI [.int .u8 k, .int .u8 m]).toArray⟩) (w' := we) rfl (by rfl) (by go_simp; try with_reducible rfl) (Cells.refl _ _) ?_
   simp only [Act.put, apu, apv, apw]
   clear cj
   refine SeqC.take (v := ?_) rfl (by rfl) (fun W hW => ?_) ?_; rotate_left; (focus (go_simp; first | done | with_reducible rfl | (refine if_neg ?_; omega) | (refine if_neg ?_; simp; omega) | trace_state)); simp only [Act.put, apu, apv, apw]
   have hcat : (({ data := #[120] } : ByteArray) ++ { data := (bM (i : Nat)).toArray } ++ { data := #[58, 32] } ++ { data := (pI [.int .u8 k, .int .u8 m]).toArray }) = ⟨(GU i [.int .u8 k, .int .u8 m]).toArray⟩ := by
    apply ByteArray.ext
    simp [GU]
   simp only [hcat]
   clear hcat
   refine SeqC.val (v := .slice (some ⟨we.heap.size, 0, none⟩) 1 1) (w' := we.alloc (.cells #[.string ⟨(GU i [.int .u8 k, .int .u8 m]).toArray⟩] tS1)) rfl (by rfl) (by go_simp; try with_reducible rfl) (Cells.lX ((Below.refl _ _).alloc (apD _) _) (fun p hp => apB (HALL.out p hp) HN3.out.b.size)) ?_
   simp only [Act.put, apu, apv, apw]
   refine SeqC.step rfl (by rfl) (fun K' hK => ?_)
   refine LX _ _ 94 rfl w1.heap.size tS1 (.string ⟨#[]⟩) 1 16 Tryz.underlying94 aip rfl (by decide) _ _ _ rfl (Oe HN3.out.o ((Below.refl _ _).alloc (apD _) _)) [.string ⟨(GU i [.int .u8 k, .int .u8 m]).toArray⟩] we.heap.size 1 rfl (aX (w := we) rfl) rfl (by simp [Value.oneCell']) (by omega) (by omega) w1 (HN3.out.b.alloc HN3.out.b.size _) (by have := HN3.out.b.size; simp; omega) ?_
   intro v1 w9 hown1 hbel1 hkeep
   refine hK _ _ (fun p hp => ?_) ?_
   ·have hp1 := HALL.out p hp
    exact (hbel1.cell hp1).trans ((HN3.out.b.alloc HN3.out.b.size _).cell hp1).symm
   simp only [Act.put, apu, apv, apw]
   refine SeqC.take (v := ?_) rfl (by rfl) (fun W hW => ?_) ?_; rotate_left; (focus (go_simp; first | done | with_reducible rfl | (refine if_neg ?_; omega) | (refine if_neg ?_; simp; omega) | trace_state)); simp only [Act.put, apu, apv, apw]
   refine SeqC.done ?_
   clear hkeep
   go_wp2
   go_roundg (D.ls.length - (i + 1))
   case measure => omega
   case rel => exact ⟨i + 1, by simp, by omega, rfl, by rw [Gv, HTI.out]; exact ⟨by rw [zu, apy]; exact hown1, hbel1⟩⟩
  ·obtain rfl : i = D.ls.length := by omega
   have hN0 := HNT.out
   rw [Wj] at hN0
   have HB0 := Lib.hid hN0
   clear hN0 HNT HO
   go_wp2_with fail
   clear q0 q1 q2 q3
   go_loopg [6, 8] D.bs.length (fun g s6 s8 w8 => ∃ i : Nat, s8 = .int .i64 i /\ i <= D.bs.length /\ g = D.bs.length - i /\ H9 w1 s6 (CZ D n i) w8)
   case atStart => exact ⟨0, rfl, apI _, rfl, HB0.out⟩
   case round =>
    clear HB0
    obtain ⟨i, rfl, hi2, rfl, hnow⟩ := hrel
    have HNT := Lib.hid hnow
    have HO := Lib.hid (HB1.out.trans (hnow.b.mono hw0))
    obtain ⟨q0, q1, q2, q3⟩ := (HY.out.below hnow.b).cells
    clear hnow
    have h0I2 : (0 : Int) <= (i : Int) := apA _
    rcases apH i D.bs.length with hlt | hge2
    ·have hltI : (i : Int) < (D.bs.length : Int) := by omega
     obtain ⟨x, hx⟩ : ∃ x, D.bs[i]? = some x := ⟨_, apx hlt⟩
     have hxm := apC hx
     have hbk := HF.out.blk x hxm
     obtain ⟨As, cs, es, hms, hrs⟩ := jY.X6 hbk
     have hcb := dX (HRB.out i x.cells (by rw [apE, hx]; rfl)) hgb HO.out
     have hbl14 := mG hbk
     have HGD := Lib.hid (show D.bs.getD i noB = x from by rw [apz, hx]; rfl)
     have h24 := HL.out.s x hxm
     have hdi : (bM (i : Nat)).length <= 21 := dY _
     have hc1 : ¬ 9223372036854775807 < 1 + (bM (i : Nat)).length := by omega
     have hc2 : ¬ 9223372036854775807 < 1 + (bM (i : Nat)).length + 1 := by omega
     have hcnt := FC HL.out n i
     have HES := Lib.hid es
     have HRS := Lib.hid hrs
     have HBK := Lib.hid hbk
     have HXM := Lib.hid hxm
     clear hcb es hrs hbk hxm hx
     go_upto_region 12 with fail
     go_upto_region 13 with (first | (go_at_call 83; refine (HC.out.nu (i : Nat) (by omega) (by omega) _ HO.out).mono ?_; rintro e wa ⟨rfl, ba⟩; have HNA := Lib.hid (HNT.out.below ba)) | (at_builtin; refine qQ rfl _ _ 94 rfl w1.heap.size tS1 (.string ⟨#[]⟩) 16 Tryz.underlying94 aip rfl _ _ _ rfl HNA.out.o _ rfl rfl (by omega) (by omega) HNA.out.b HNA.out.b.size ?_; intro v1 w9 hown1 hbel1))
     have hcat : (({ data := #[98] } : ByteArray) ++ { data := (bM (i : Nat)).toArray } ++ { data := #[58] }) = ⟨(bhT i).toArray⟩ := by
      apply ByteArray.ext
      simp [bhT]
     have HS0 := Lib.hid (show H9 w1 v1 (wI D n i 0) w9 from ⟨by rw [Hr, zu, apy, <- hcat]; exact hown1, hbel1⟩)
     have HO9 := Lib.hid (HB1.out.trans (hbel1.mono hw0))
     clear hown1 hcat hc1 hc2 q0 q1 q2 q3 HNT HNA HO
     obtain ⟨q0, q1, q2, q3⟩ := (HY.out.below hbel1).cells
     have hx9 : D.bs[i]? = some x := by
      have := HGD.out
      rw [apz, apx hlt] at this
      rw [apx hlt]
      exact congrArg some this
     have HX9 := Lib.hid hx9
     have hcb := dX (HRB.out i x.cells (by rw [apE, hx9]; rfl)) hgb HO9.out
     have q5 : w9.cell? ⟨gb, ob + i * 14, none⟩ = some (.slice As x.st.length cs) := by have := hcb 0 x.s rfl; rw [<- HES.out]; exact this
     clear hcb hx9 hbel1
     go_wp2_with fail
     clear q0 q1 q2 q3 q5
     go_loopg [6, 10] x.st.length (fun g s6 s10 w8 => ∃ k : Nat, s10 = .int .i64 k /\ k <= x.st.length /\ g = x.st.length - k /\ H9 w1 s6 (wI D n i k) w8)
     case atStart => exact ⟨0, rfl, apI _, rfl, HS0.out⟩
     case round =>
      clear HS0 HO9
      obtain ⟨k, rfl, hk, rfl, hnow⟩ := hrel
      have HNT := Lib.hid hnow
      have HO := Lib.hid (HB1.out.trans (hnow.b.mono hw0))
      obtain ⟨q0, q1, q2, q3⟩ := (HY.out.below hnow.b).cells
      clear hnow
      have h0K : (0 : Int) <= (k : Int) := apA _
      have hcnt2 : (wI D n i k).length <= 700 := by
       have := st_len HL.out i
       simp only [wI, apy, apJ, apK, List.length_take]
       omega
      rcases apH k x.st.length with hkl | hkg
      ·have hklI : (k : Int) < (x.st.length : Int) := by omega
       obtain ⟨el, hel⟩ : ∃ el, x.st[k]? = some el := ⟨_, apx hkl⟩
       have helm := apC hel
       have hkk := HBK.out.skd el helm
       obtain ⟨gs, os, eS, hgs, hrng⟩ := (HRS.out.below HO.out) k el hel
       subst eS
       have h26 : el.length = 26 := hkk.len.symm
       have HRN := Lib.hid hrng
       have HST := Lib.hid (HC.out.st x HXM.out el helm)
       have HNX := Lib.hid (QW (n := n) (i := i) (by rw [HGD.out]; exact hel))
       have hst := a3a (uz el)
       have hc3 : ¬ 9223372036854775807 < 2 + (stT (uz el)).length := by omega
       clear hrng hel hkk helm q0 q1 q2 q3
       go_wp2_with (first | (refine wpList_load_mid rfl tSt _ rfl gs (os + k * 26) rfl el _ HRN.out Tryz.underlying78 rfl (by rw [h26]; exact sR) ?_) | (go_at_call 86; refine (HST.out _ HO.out).mono ?_; rintro e wa ⟨rfl, ba⟩; have HNA := Lib.hid (HNT.out.below ba)) | (at_builtin; refine qQ rfl _ _ 94 rfl w1.heap.size tS1 (.string ⟨#[]⟩) 16 Tryz.underlying94 aip rfl _ _ _ rfl HNA.out.o _ rfl rfl (by omega) (by omega) HNA.out.b HNA.out.b.size ?_; intro v1 w9 hown1 hbel1))
       have hcat : (({ data := #[32, 32] } : ByteArray) ++ { data := (stT (uz el)).toArray }) = ⟨(stL el).toArray⟩ := by
        apply ByteArray.ext
        simp [stL]
       have HN9 := Lib.hid (show H9 w1 v1 (wI D n i (k + 1)) w9 from ⟨by rw [HNX.out, zu, apy, <- hcat]; exact hown1, hbel1⟩)
       clear hown1 hcat
       go_roundg (x.st.length - (k + 1))
       case measure => omega
       case rel => exact ⟨k + 1, by simp, by omega, rfl, HN9.out⟩
      ·obtain rfl : k = x.st.length := by omega
       have hcb := dX (HRB.out i x.cells (by rw [apE, HX9.out]; rfl)) hgb HO.out
       have hrj : wr.rangeAt gb (ob + i * 14 + 1) (x.pre ++ x.a :: x.post) := fun j u hj => by
        show wr.cell? ⟨gb, ob + i * 14 + 1 + j, none⟩ = some u
        rw [Nat.add_assoc _ 1 j, Nat.add_comm 1 j]
        exact hcb (j + 1) u hj
       have hj13 : (x.pre ++ x.a :: x.post).length = 13 := by
        have : x.cells.length = (x.pre ++ x.a :: x.post).length + 1 := rfl
        omega
       have HRJ := Lib.hid hrj
       have HJM := Lib.hid (HC.out.jm x HXM.out)
       have hla := Wn D n i
       rw [HGD.out] at hla
       have HLA := Lib.hid hla
       have hjl := a2G HL.out i
       rw [HGD.out] at hjl
       have hjl2 : (jmL x).length = 2 + (kD x.pre x.ops x.post).length := by simp [jmL]; omega
       have hc3 : ¬ 9223372036854775807 < 2 + (kD x.pre x.ops x.post).length := by omega
       clear hcb hrj hla
       go_wp2_with (first | (refine wpList_load_mid rfl tJm _ rfl gb (ob + i * 14 + 1) rfl (x.pre ++ x.a :: x.post) _ HRJ.out Tryz.underlying58 rfl (by rw [hj13]; exact jR) ?_) | (go_at_call 87; refine (HJM.out _ HO.out).mono ?_; rintro e wa ⟨rfl, ba⟩; have HNA := Lib.hid (HNT.out.below ba)) | (at_builtin; refine qQ rfl _ _ 94 rfl w1.heap.size tS1 (.string ⟨#[]⟩) 16 Tryz.underlying94 aip rfl _ _ _ rfl HNA.out.o _ rfl rfl (by omega) (by omega) HNA.out.b HNA.out.b.size ?_; intro v1 w9 hown1 hbel1))
       have hcat : (({ data := #[32, 32] } : ByteArray) ++ { data := (kD x.pre x.ops x.post).toArray }) = ⟨(jmL x).toArray⟩ := by
        apply ByteArray.ext
        simp [jmL]
       have HN9 := Lib.hid (show H9 w1 v1 (CZ D n (i + 1)) w9 from ⟨by rw [<- HLA.out, zu, apy, <- hcat]; exact hown1, hbel1⟩)
       clear hown1 hcat
       go_roundg (D.bs.length - (i + 1))
       case measure => omega
       case rel => exact ⟨i + 1, by simp, by omega, rfl, HN9.out⟩
    ·obtain rfl : i = D.bs.length := by omega
     go_wp2_with fail
     go_ret
     exact ⟨_, rfl, a7d HNT.out.o hw0, HO.out⟩
end txt
end Go.Proofs.YtglmonlofejcgaaGreatDoor
