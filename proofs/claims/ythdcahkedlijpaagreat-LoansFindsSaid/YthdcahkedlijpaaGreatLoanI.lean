/- pawnshopref18.Same over two lists that say the same. -/
import Derived.Test.YthdcahkedlijpaaGreatLoanH
namespace Go.Proofs.YthdcahkedlijpaaGreat.loan
open Go.RowKit Go.Proofs.YthdcahkedlijpaaGreat Go.Proofs.YthdcahkedlijpaaGreat.Am
set_option linter.unusedVariables false
def BitsAt (W : World) (A : Option Addr) (l : List Bool) : Prop := ∀ (i : Nat) (x : Bool), l[i]? = some x → ∃ g o, A = some ⟨g, o, none⟩ ∧ g < W.heap.size ∧ W.cell? ⟨g, o + i, none⟩ = some (.bool x)
set_option maxRecDepth 100000 in
set_option maxHeartbeats 4000000 in
theorem same18_c {W : World} {A B : Option Addr} {c d : Nat} {l : List Bool} (hl : (l.length : Int) ≤ 9223372036854775807) (hA : BitsAt W A l) (hB : BitsAt W B l) : Calls Tryz.prog 16 #[.slice A l.length c, .slice B l.length d] W (Ans1 W (.bool true)) := by
 have HA := Lib.hid hA
 have HB := Lib.hid hB
 clear hA hB
 go_enter Tryz.func16, Tryz.ntmps16
 go_upto_region 4 with fail
 go_loopg [5] l.length (fun g s5 wr => ∃ n : Nat, s5 = .int .i64 n ∧ n ≤ l.length ∧ g = l.length - n ∧ Below W.heap.size W wr)
 case atStart => exact ⟨0, rfl, Nat.zero_le _, rfl, Below.refl _ _⟩
 case round =>
  obtain ⟨n, rfl, hn, rfl, hbel⟩ := hrel
  have h0N : (0 : Int) ≤ (n : Int) := Int.natCast_nonneg _
  rcases Nat.lt_or_ge n l.length with hlt | hge
  ·have hltI : (n : Int) < (l.length : Int) := by omega
   obtain ⟨x, hx⟩ : ∃ x, l[n]? = some x := ⟨_, List.getElem?_eq_getElem hlt⟩
   obtain ⟨ga, oa, eA, hga, hca⟩ := HA.out n x hx
   obtain ⟨gb, ob, eB, hgb, hcb⟩ := HB.out n x hx
   subst eA eB
   have d1 : wr.drew.cell? ⟨ga, oa + n, none⟩ = some (.bool x) := (hbel.cell (p := ⟨ga, oa + n, none⟩) hga).trans hca
   have d2 : wr.drew.cell? ⟨gb, ob + n, none⟩ = some (.bool x) := (hbel.cell (p := ⟨gb, ob + n, none⟩) hgb).trans hcb
   have HBD := Lib.hid hbel.drew
   clear hbel hca hcb hx
   go_upto_region 6 with fail
   refine region_cells [⟨ga, oa + n, none⟩, ⟨gb, ob + n, none⟩] [(0, true), (1, true), (2, true), (3, true), (4, true), (5, true), (6, true), (7, true), (8, true)] (by kernel_rfl) (by kernel_rfl) (by decide) (by kernel_rfl) (fun _ _ _ _ _ h => h) ?_
   generalize wr.drew = wd at *
   refine SeqC.take (v := ?_) rfl (by rfl) (fun W' hW => ?_) ?_; rotate_left; (focus (have zd1 := hW.get (by simp) d1; have zd2 := hW.get (by simp) d2; go_simp; with_reducible rfl)); simp only [Act.put, List.setIfInBounds_toArray, List.set_cons_zero, List.set_cons_succ]
   refine SeqC.take (v := ?_) rfl (by rfl) (fun W' hW => ?_) ?_; rotate_left; (focus (have zd1 := hW.get (by simp) d1; have zd2 := hW.get (by simp) d2; go_simp; with_reducible rfl)); simp only [Act.put, List.setIfInBounds_toArray, List.set_cons_zero, List.set_cons_succ]
   refine SeqC.take (v := ?_) rfl (by rfl) (fun W' hW => ?_) ?_; rotate_left; (focus (have zd1 := hW.get (by simp) d1; have zd2 := hW.get (by simp) d2; go_simp; with_reducible rfl)); simp only [Act.put, List.setIfInBounds_toArray, List.set_cons_zero, List.set_cons_succ]
   refine SeqC.take (v := ?_) rfl (by rfl) (fun W' hW => ?_) ?_; rotate_left; (focus (have zd1 := hW.get (by simp) d1; have zd2 := hW.get (by simp) d2; go_simp; with_reducible rfl)); simp only [Act.put, List.setIfInBounds_toArray, List.set_cons_zero, List.set_cons_succ]
   refine SeqC.take (v := ?_) rfl (by rfl) (fun W' hW => ?_) ?_; rotate_left; (focus (have zd1 := hW.get (by simp) d1; have zd2 := hW.get (by simp) d2; go_simp; with_reducible rfl)); simp only [Act.put, List.setIfInBounds_toArray, List.set_cons_zero, List.set_cons_succ]
   refine SeqC.take (v := ?_) rfl (by rfl) (fun W' hW => ?_) ?_; rotate_left; (focus (have zd1 := hW.get (by simp) d1; have zd2 := hW.get (by simp) d2; go_simp; with_reducible rfl)); simp only [Act.put, List.setIfInBounds_toArray, List.set_cons_zero, List.set_cons_succ]
   refine SeqC.take (v := ?_) rfl (by rfl) (fun W' hW => ?_) ?_; rotate_left; (focus (have zd1 := hW.get (by simp) d1; have zd2 := hW.get (by simp) d2; go_simp; with_reducible rfl)); simp only [Act.put, List.setIfInBounds_toArray, List.set_cons_zero, List.set_cons_succ]
   refine SeqC.take (v := ?_) rfl (by rfl) (fun W' hW => ?_) ?_; rotate_left; (focus (have zd1 := hW.get (by simp) d1; have zd2 := hW.get (by simp) d2; go_simp; with_reducible rfl)); simp only [Act.put, List.setIfInBounds_toArray, List.set_cons_zero, List.set_cons_succ]
   refine SeqC.take (v := ?_) rfl (by rfl) (fun W' hW => ?_) ?_; rotate_left; (focus (have zd1 := hW.get (by simp) d1; have zd2 := hW.get (by simp) d2; go_simp; with_reducible rfl)); simp only [Act.put, List.setIfInBounds_toArray, List.set_cons_zero, List.set_cons_succ]
   refine SeqC.done ?_
   go_wp2
   go_roundg (l.length - (n + 1))
   case measure => omega
   case rel => exact ⟨n + 1, by simp, by omega, rfl, HBD.out⟩
  ·obtain rfl : n = l.length := by omega
   go_wp2
   go_ret
   exact ⟨rfl, hbel⟩
set_option maxRecDepth 100000 in
set_option maxHeartbeats 4000000 in
theorem same21_c {W : World} {A B : Option Addr} {c d : Nat} {els : List (List Value)} (hl : (els.length : Int) ≤ 9223372036854775807) (hA : RowsAt W A 6 els) (hB : RowsAt W B 6 els)
  (hx : ∀ (i : Nat) (x : List Value), els[i]? = some x → ∃ (n a c d e : Int) (u : Bool), x = [.int .i64 n, .int .i64 a, .bool u, .int .u8 c, .int .u8 d, .int .i64 e]) :
  Calls Tryz.prog 15 #[.slice A els.length c, .slice B els.length d] W (Ans1 W (.bool true)) := by
 have HA := Lib.hid hA
 have HB := Lib.hid hB
 have HX := Lib.hid hx
 clear hA hB hx
 go_enter Tryz.func15, Tryz.ntmps15
 go_upto_region 4 with fail
 go_loopg [5] els.length (fun g s5 wr => ∃ n : Nat, s5 = .int .i64 n ∧ n ≤ els.length ∧ g = els.length - n ∧ Below W.heap.size W wr)
 case atStart => exact ⟨0, rfl, Nat.zero_le _, rfl, Below.refl _ _⟩
 case round =>
  obtain ⟨n, rfl, hn, rfl, hbel⟩ := hrel
  have h0N : (0 : Int) ≤ (n : Int) := Int.natCast_nonneg _
  rcases Nat.lt_or_ge n els.length with hlt | hge
  ·have hltI : (n : Int) < (els.length : Int) := by omega
   obtain ⟨x, hx⟩ : ∃ x, els[n]? = some x := ⟨_, List.getElem?_eq_getElem hlt⟩
   obtain ⟨n1, a1, c1, d1, e1, u1, rfl⟩ := HX.out n x hx
   obtain ⟨ga, oa, eA, hga, hca⟩ := HA.out n _ hx
   obtain ⟨gb, ob, eB, hgb, hcb⟩ := HB.out n _ hx
   subst eA eB
   have hca' : ∀ f u, [Value.int .i64 n1, .int .i64 a1, .bool u1, .int .u8 c1, .int .u8 d1, .int .i64 e1][f]? = some u → wr.drew.cell? ⟨ga, oa + n * 6 + f, none⟩ = some u := fun f u hu => (hbel.cell (p := ⟨ga, oa + n * 6 + f, none⟩) hga).trans (hca f u hu)
   have hcb' : ∀ f u, [Value.int .i64 n1, .int .i64 a1, .bool u1, .int .u8 c1, .int .u8 d1, .int .i64 e1][f]? = some u → wr.drew.cell? ⟨gb, ob + n * 6 + f, none⟩ = some u := fun f u hu => (hbel.cell (p := ⟨gb, ob + n * 6 + f, none⟩) hgb).trans (hcb f u hu)
   have p0 := hca' 0 _ rfl
   have p1 := hca' 1 _ rfl
   have p2 := hca' 2 _ rfl
   have p3 := hca' 3 _ rfl
   have p4 := hca' 4 _ rfl
   have p5 := hca' 5 _ rfl
   have q0 := hcb' 0 _ rfl
   have q1 := hcb' 1 _ rfl
   have q2 := hcb' 2 _ rfl
   have q3 := hcb' 3 _ rfl
   have q4 := hcb' 4 _ rfl
   have q5 := hcb' 5 _ rfl
   simp only [Nat.add_zero] at p0 q0
   have HBD := Lib.hid hbel.drew
   clear hbel hca hcb hx hca' hcb'
   go_upto_region 6 with fail
   refine region_cells [⟨ga, oa + n * 6, none⟩, ⟨ga, oa + n * 6 + 1, none⟩, ⟨ga, oa + n * 6 + 2, none⟩, ⟨ga, oa + n * 6 + 3, none⟩, ⟨ga, oa + n * 6 + 4, none⟩, ⟨ga, oa + n * 6 + 5, none⟩, ⟨gb, ob + n * 6, none⟩, ⟨gb, ob + n * 6 + 1, none⟩, ⟨gb, ob + n * 6 + 2, none⟩, ⟨gb, ob + n * 6 + 3, none⟩, ⟨gb, ob + n * 6 + 4, none⟩, ⟨gb, ob + n * 6 + 5, none⟩] [(0, true), (1, true), (2, true), (3, true), (4, true), (5, true), (6, true), (7, true), (8, true)] (by kernel_rfl) (by kernel_rfl) (by decide) (by kernel_rfl) (fun _ _ _ _ _ h => h) ?_
   generalize wr.drew = wd at *
   refine SeqC.take (v := ?_) rfl (by rfl) (fun W' hW => ?_) ?_; rotate_left; (focus (have zp0 := hW.get (by simp) p0; have zp1 := hW.get (by simp) p1; have zp2 := hW.get (by simp) p2; have zp3 := hW.get (by simp) p3; have zp4 := hW.get (by simp) p4; have zp5 := hW.get (by simp) p5; have zq0 := hW.get (by simp) q0; have zq1 := hW.get (by simp) q1; have zq2 := hW.get (by simp) q2; have zq3 := hW.get (by simp) q3; have zq4 := hW.get (by simp) q4; have zq5 := hW.get (by simp) q5; go_simp; with_reducible rfl)); simp only [Act.put, List.setIfInBounds_toArray, List.set_cons_zero, List.set_cons_succ]
   refine SeqC.take (v := ?_) rfl (by rfl) (fun W' hW => ?_) ?_; rotate_left; (focus (have zp0 := hW.get (by simp) p0; have zp1 := hW.get (by simp) p1; have zp2 := hW.get (by simp) p2; have zp3 := hW.get (by simp) p3; have zp4 := hW.get (by simp) p4; have zp5 := hW.get (by simp) p5; have zq0 := hW.get (by simp) q0; have zq1 := hW.get (by simp) q1; have zq2 := hW.get (by simp) q2; have zq3 := hW.get (by simp) q3; have zq4 := hW.get (by simp) q4; have zq5 := hW.get (by simp) q5; go_simp; with_reducible rfl)); simp only [Act.put, List.setIfInBounds_toArray, List.set_cons_zero, List.set_cons_succ]
   refine SeqC.take (v := ?_) rfl (by rfl) (fun W' hW => ?_) ?_; rotate_left; (focus (have zp0 := hW.get (by simp) p0; have zp1 := hW.get (by simp) p1; have zp2 := hW.get (by simp) p2; have zp3 := hW.get (by simp) p3; have zp4 := hW.get (by simp) p4; have zp5 := hW.get (by simp) p5; have zq0 := hW.get (by simp) q0; have zq1 := hW.get (by simp) q1; have zq2 := hW.get (by simp) q2; have zq3 := hW.get (by simp) q3; have zq4 := hW.get (by simp) q4; have zq5 := hW.get (by simp) q5; go_simp; with_reducible rfl)); simp only [Act.put, List.setIfInBounds_toArray, List.set_cons_zero, List.set_cons_succ]
   refine SeqC.take (v := ?_) rfl (by rfl) (fun W' hW => ?_) ?_; rotate_left; (focus (have zp0 := hW.get (by simp) p0; have zp1 := hW.get (by simp) p1; have zp2 := hW.get (by simp) p2; have zp3 := hW.get (by simp) p3; have zp4 := hW.get (by simp) p4; have zp5 := hW.get (by simp) p5; have zq0 := hW.get (by simp) q0; have zq1 := hW.get (by simp) q1; have zq2 := hW.get (by simp) q2; have zq3 := hW.get (by simp) q3; have zq4 := hW.get (by simp) q4; have zq5 := hW.get (by simp) q5; go_simp; with_reducible rfl)); simp only [Act.put, List.setIfInBounds_toArray, List.set_cons_zero, List.set_cons_succ]
   refine SeqC.take (v := ?_) rfl (by rfl) (fun W' hW => ?_) ?_; rotate_left; (focus (have zp0 := hW.get (by simp) p0; have zp1 := hW.get (by simp) p1; have zp2 := hW.get (by simp) p2; have zp3 := hW.get (by simp) p3; have zp4 := hW.get (by simp) p4; have zp5 := hW.get (by simp) p5; have zq0 := hW.get (by simp) q0; have zq1 := hW.get (by simp) q1; have zq2 := hW.get (by simp) q2; have zq3 := hW.get (by simp) q3; have zq4 := hW.get (by simp) q4; have zq5 := hW.get (by simp) q5; go_simp; with_reducible rfl)); simp only [Act.put, List.setIfInBounds_toArray, List.set_cons_zero, List.set_cons_succ]
   refine SeqC.take (v := ?_) rfl (by rfl) (fun W' hW => ?_) ?_; rotate_left; (focus (have zp0 := hW.get (by simp) p0; have zp1 := hW.get (by simp) p1; have zp2 := hW.get (by simp) p2; have zp3 := hW.get (by simp) p3; have zp4 := hW.get (by simp) p4; have zp5 := hW.get (by simp) p5; have zq0 := hW.get (by simp) q0; have zq1 := hW.get (by simp) q1; have zq2 := hW.get (by simp) q2; have zq3 := hW.get (by simp) q3; have zq4 := hW.get (by simp) q4; have zq5 := hW.get (by simp) q5; go_simp; with_reducible rfl)); simp only [Act.put, List.setIfInBounds_toArray, List.set_cons_zero, List.set_cons_succ]
   refine SeqC.take (v := ?_) rfl (by rfl) (fun W' hW => ?_) ?_; rotate_left; (focus (have zp0 := hW.get (by simp) p0; have zp1 := hW.get (by simp) p1; have zp2 := hW.get (by simp) p2; have zp3 := hW.get (by simp) p3; have zp4 := hW.get (by simp) p4; have zp5 := hW.get (by simp) p5; have zq0 := hW.get (by simp) q0; have zq1 := hW.get (by simp) q1; have zq2 := hW.get (by simp) q2; have zq3 := hW.get (by simp) q3; have zq4 := hW.get (by simp) q4; have zq5 := hW.get (by simp) q5; go_simp; with_reducible rfl)); simp only [Act.put, List.setIfInBounds_toArray, List.set_cons_zero, List.set_cons_succ]
   refine SeqC.take (v := ?_) rfl (by rfl) (fun W' hW => ?_) ?_; rotate_left; (focus (have zp0 := hW.get (by simp) p0; have zp1 := hW.get (by simp) p1; have zp2 := hW.get (by simp) p2; have zp3 := hW.get (by simp) p3; have zp4 := hW.get (by simp) p4; have zp5 := hW.get (by simp) p5; have zq0 := hW.get (by simp) q0; have zq1 := hW.get (by simp) q1; have zq2 := hW.get (by simp) q2; have zq3 := hW.get (by simp) q3; have zq4 := hW.get (by simp) q4; have zq5 := hW.get (by simp) q5; go_simp; with_reducible rfl)); simp only [Act.put, List.setIfInBounds_toArray, List.set_cons_zero, List.set_cons_succ]
   refine SeqC.take (v := ?_) rfl (by rfl) (fun W' hW => ?_) ?_; rotate_left; (focus (have zp0 := hW.get (by simp) p0; have zp1 := hW.get (by simp) p1; have zp2 := hW.get (by simp) p2; have zp3 := hW.get (by simp) p3; have zp4 := hW.get (by simp) p4; have zp5 := hW.get (by simp) p5; have zq0 := hW.get (by simp) q0; have zq1 := hW.get (by simp) q1; have zq2 := hW.get (by simp) q2; have zq3 := hW.get (by simp) q3; have zq4 := hW.get (by simp) q4; have zq5 := hW.get (by simp) q5; go_simp; with_reducible rfl)); simp only [Act.put, List.setIfInBounds_toArray, List.set_cons_zero, List.set_cons_succ]
   refine SeqC.done ?_
   go_wp2
   go_roundg (els.length - (n + 1))
   case measure => omega
   case rel => exact ⟨n + 1, by simp, by omega, rfl, HBD.out⟩
  ·obtain rfl : n = els.length := by omega
   go_wp2
   go_ret
   exact ⟨rfl, hbel⟩
end Go.Proofs.YthdcahkedlijpaaGreat.loan
