/- A builder of the call's own, while other memory is made; rows of strings. (No program in sight.) What a sound function is, for its text. Texts of types: shape.Text, and the reference's Number and Names. strings.Builder: copyCheck, WriteString, WriteByte at a builder of the call's own. (The shelf's forms do not lie at a dump whose copyCheck ends in a refusal: walked here.) A region that draws its order, walked in ONE order, what it reads being some cells that no operation of the region changes. Append onto a row of one's own, which keeps the cells that were there. (No program in sight.) text.line, and the closure that writes a line behind two blanks. text.function$1: a line behind two blanks. -/
import Derived.Test.YtglmonlofejcgaaDoorLoanK
import Derived.Lib.OthersKept
import Derived.Test.YtglmonlofejcgaaDoorTextR
import Derived.Test.YtglmonlofejcgaaDoorCore
import Derived.Test.YtglmonlofejcgaaDoorSeat
import Derived.Deep.AppendLies
import Derived.Deep.DeepCutAuto
import Derived.Deep.MidRow
namespace Go.Proofs.YtglmonlofejcgaaDoor.bld
open Go.RowKit Go.Proofs.YtglmonlofejcgaaDoor Go.Proofs.YtglmonlofejcgaaDoor.Am Go.Proofs.YtglmonlofejcgaaDoor.loan
set_option linter.unusedVariables false
def Ans (W : World) (v : Value) (e : Ending) (W' : World) : Prop := e = .returned v ∧ Below W.heap.size W W'
theorem BuilderAtF.keep {T e : TypeId} {B b : Nat} {p : Value} {bs : List Value} {w w' : World} (h : Lib.BuilderAtF T e B b p bs w) (hk : ∀ k, k < w.heap.size → w'.heap[k]? = w.heap[k]?) : Lib.BuilderAtF T e B b p bs w' := by
 obtain ⟨hB, v, hb, hown, hne⟩ := h
 refine ⟨hB, v, (hk _ (Array.getElem?_eq_some_iff.1 hb).1).trans hb, ⟨hown.1, ?_⟩, hne⟩
 rcases hown.2 with hn | ⟨g, cap, cur, fz, hv, hbg, hg, rest⟩
 ·exact .inl hn
 ·exact .inr ⟨g, cap, cur, fz, hv, hbg, (hk _ (Array.getElem?_eq_some_iff.1 hg).1).trans hg, rest⟩
def Bld (T e : TypeId) (b : Nat) (l : List UInt8) (w : World) : Prop := Lib.IsBuilderF T e b b (Lib.byteCells l) w
theorem Bld.keep {T e : TypeId} {b : Nat} {l : List UInt8} {w w' : World} (h : Bld T e b l w) (hk : ∀ k, k < w.heap.size → w'.heap[k]? = w.heap[k]?) : Bld T e b l w' :=
 h.elim (fun x => .inl (BuilderAtF.keep x hk)) (fun x => .inr (BuilderAtF.keep x hk))
theorem Bld.below {T e : TypeId} {b : Nat} {l : List UInt8} {w w' : World} (h : Bld T e b l w) (hb : Below w.heap.size w w') : Bld T e b l w' := h.keep hb.block
theorem Bld.lt {T e : TypeId} {b : Nat} {l : List UInt8} {w : World} (h : Bld T e b l w) : b < w.heap.size := by
 rcases h with ⟨_, v, hb, _⟩ | ⟨_, v, hb, _⟩ <;> exact (Array.getElem?_eq_some_iff.1 hb).1
structure Wrote (e : TypeId) (b : Nat) (w w' : World) : Prop where
 bel : Below b w w'
 oth : Lib.OthersKept e (some b) w w'
theorem Wrote.refl (e : TypeId) (b : Nat) (w : World) : Wrote e b w w := ⟨Below.refl _ _, .refl _ _ _⟩
theorem Wrote.trans {e : TypeId} {b : Nat} {x y z : World} (h : Wrote e b x y) (k : Wrote e b y z) : Wrote e b x z := ⟨h.bel.trans k.bel, h.oth.trans k.oth⟩
theorem Wrote.of_below {e : TypeId} {b : Nat} {w w' : World} (h : Below w.heap.size w w') (hb : b ≤ w.heap.size) : Wrote e b w w' :=
 ⟨h.mono hb, fun k o hk _ _ => (h.block k (Array.getElem?_eq_some_iff.1 hk).1).trans hk⟩
theorem Wrote.block {e : TypeId} {b k : Nat} {w w' : World} {cs : Array Value} {t : TypeId} {fz : Nat × Nat} (h : Wrote e b w w') (hk : w.heap[k]? = some (.cells cs t fz)) (hb : k ≠ b) (ht : t ≠ e) : w'.heap[k]? = some (.cells cs t fz) :=
 h.oth k _ hk (fun x => hb (Option.some.inj x)) (fun c f x => ht (by injection x))
def StrsAt (w : World) (b : Nat) (e : TypeId) (A : Option Addr) (l : List (List UInt8)) : Prop :=
 ∀ i s, l[i]? = some s → ∃ g o cs t fz, A = some ⟨g, o, none⟩ ∧ g ≠ b ∧ w.heap[g]? = some (.cells cs t fz) ∧ t ≠ e ∧ cs[o + i]? = some (.string ⟨s.toArray⟩)
theorem StrsAt.wrote {w w' : World} {b : Nat} {e : TypeId} {A : Option Addr} {l : List (List UInt8)} (h : StrsAt w b e A l) (hw : Wrote e b w w') : StrsAt w' b e A l := fun i s hi => by
 obtain ⟨g, o, cs, t, fz, hA, hg, hc, ht, hs⟩ := h i s hi
 exact ⟨g, o, cs, t, fz, hA, hg, hw.block hc hg ht, ht, hs⟩
theorem StrsAt.cell {w : World} {b : Nat} {e : TypeId} {A : Option Addr} {l : List (List UInt8)} (h : StrsAt w b e A l) {i : Nat} {s : List UInt8} (hi : l[i]? = some s) : ∃ g o, A = some ⟨g, o, none⟩ ∧ w.cell? ⟨g, o + i, none⟩ = some (.string ⟨s.toArray⟩) := by
 obtain ⟨g, o, cs, t, fz, hA, hg, hc, ht, hs⟩ := h i s hi
 exact ⟨g, o, hA, by rw [cell_of_row w g (o + i) cs t fz hc]; exact hs⟩
theorem StrsAt.new {w : World} {b g : Nat} {e t : TypeId} {l : List (List UInt8)} (hb : g ≠ b) (ht : t ≠ e) (h : w.heap[g]? = some (.cells (l.map fun s => Value.string ⟨s.toArray⟩).toArray t (0, 0))) : StrsAt w b e (some ⟨g, 0, none⟩) l := fun i s hi =>
 ⟨g, 0, _, t, _, rfl, hb, h, ht, by simp [hi]⟩
theorem str_cells (l : List UInt8) : Lib.strCells (⟨l.toArray⟩ : ByteArray) = Lib.byteCells l := by
 simp [Lib.strCells, Lib.byteCells]
end Go.Proofs.YtglmonlofejcgaaDoor.bld
namespace Go.Proofs.YtglmonlofejcgaaDoor.txt
open Go.RowKit Go.Proofs.YtglmonlofejcgaaDoor Go.Proofs.YtglmonlofejcgaaDoor.Am
set_option linter.unusedVariables false
structure TxtOk (D : FnD) : Prop where
 l0 : 0 < D.ls.length
 l1 : D.ls.length ≤ 16
 b0 : 0 < D.bs.length
 b1 : D.bs.length ≤ 24
 s : ∀ b ∈ D.bs, b.st.length ≤ 24
 p : 0 ≤ D.p ∧ D.p ≤ 8
 ty : ∀ t ∈ D.ls, okTy t = true
 st : ∀ b ∈ D.bs, ∀ x ∈ b.st, okStE.val x = true
 jm : ∀ b ∈ D.bs, okJ b.pre b.ops b.post = true
theorem txt_ok {D : FnD} (hc : check.chkF D = 0) : TxtOk D := by
 obtain ⟨h1, h2, _⟩ := size.of_chk hc
 obtain ⟨m1, m2, m3⟩ := check.small_of h1
 have hk := check.okB_of h2
 unfold made.madeF head.headF head.guard at h2
 simp only [Bool.and_eq_true, decide_eq_true_eq] at h2
 obtain ⟨⟨⟨g1, g2, g3, g4⟩, g5, g6⟩, g7, g8⟩ := h2
 refine ⟨g1, m1, g7, m2, m3, ⟨g2, g3⟩, fun t ht => List.all_eq_true.1 g5 t ht, fun b hb x hx => ?_, fun b hb => ?_⟩
 ·have := hk b hb
  unfold made.okB at this
  exact List.all_eq_true.1 (Bool.and_eq_true_iff.1 this).1 x hx
 ·have := hk b hb
  unfold made.okB at this
  exact (Bool.and_eq_true_iff.1 this).2
theorem ops_9 {w : World} {v : Value} {pre : List Value} {sv : Value} {post : List Value} {els : List (List Value)} (hj : JumpIs w v pre sv post els) (h : okJ pre els post = true) : els.length < 9 := by
 rcases isJ hj h with ⟨_, _, _, _, l, _⟩ | ⟨_, _, _, _, _, l, _⟩ | ⟨_, _, l, _⟩ | ⟨_, _, _, _, _, l, _, _⟩
 ·rw [l]; decide
 ·rw [l]; decide
 ·rw [l]; decide
 ·exact l
end Go.Proofs.YtglmonlofejcgaaDoor.txt
namespace Go.Proofs.YtglmonlofejcgaaDoor.txt
open Go.RowKit Go.Proofs.YtglmonlofejcgaaDoor Go.Proofs.YtglmonlofejcgaaDoor.Am Go.Proofs.YtglmonlofejcgaaDoor.loan Go.Proofs.YtglmonlofejcgaaDoor.bld
set_option linter.unusedVariables false
def types8 : List (Nat × Nat) := [(1, 0), (2, 0), (3, 1), (3, 2), (4, 1), (4, 2), (5, 1), (5, 2)]
def typV (p : Nat × Nat) : List Value := [.int .u8 p.1, .int .u8 p.2]
def typS (p : Nat × Nat) : List S := [.int .u8 p.1, .int .u8 p.2]
noncomputable abbrev runY (f : FuncId) (p : Nat × Nat) : R := @runs Know.nought (tyOf Tryd.prog) (fnOf Tryd.prog) noneO 12 8 f [.g (typS p)] ⟨[], 0⟩ 0
theorem type_runs : types8.all (fun p => sayV (.t [.s (.str (typT (typV p))), .s (.int .i64 0)]) (runY 48 p)) = true := by kernel_rfl
theorem types_mem {t : List Value} (h : All2 Kd.ok [.i .u8, .i .u8] t) (hk : okTy t = true) : ∃ p ∈ types8, t = typV p := by
 match t, h with
 | [_, _], ⟨⟨a, rfl, ha⟩, ⟨b, rfl, hb⟩, _⟩ =>
  have h : ((decide (a = 1) || decide (a = 2)) && decide (b = 0)) || ((!decide (a < 3)) && (decide (a < 6) && (decide (b = 1) || decide (b = 2)))) = true := by
   have : okTyE.num (cellI [Value.int .u8 a, .int .u8 b]) = true := hk
   simpa [okTyE, E.num, ands, isE, cellI, codeI] using this
  simp only [Bool.or_eq_true, Bool.and_eq_true, decide_eq_true_eq, Bool.not_eq_true', decide_eq_false_iff_not] at h
  have : (a = 1 ∧ b = 0) ∨ (a = 2 ∧ b = 0) ∨ (a = 3 ∧ b = 1) ∨ (a = 3 ∧ b = 2) ∨ (a = 4 ∧ b = 1) ∨ (a = 4 ∧ b = 2) ∨ (a = 5 ∧ b = 1) ∨ (a = 5 ∧ b = 2) := by omega
  rcases this with ⟨rfl, rfl⟩ | ⟨rfl, rfl⟩ | ⟨rfl, rfl⟩ | ⟨rfl, rfl⟩ | ⟨rfl, rfl⟩ | ⟨rfl, rfl⟩ | ⟨rfl, rfl⟩ | ⟨rfl, rfl⟩
  ·exact ⟨(1, 0), by decide, rfl⟩
  ·exact ⟨(2, 0), by decide, rfl⟩
  ·exact ⟨(3, 1), by decide, rfl⟩
  ·exact ⟨(3, 2), by decide, rfl⟩
  ·exact ⟨(4, 1), by decide, rfl⟩
  ·exact ⟨(4, 2), by decide, rfl⟩
  ·exact ⟨(5, 1), by decide, rfl⟩
  ·exact ⟨(5, 2), by decide, rfl⟩
theorem run_calls {f : FuncId} {p : Nat × Nat} {v : V} (w : World) (h : sayV v (runY f p) = true) :
  Calls Tryd.prog f #[.agg (typV p).toArray] w fun e w' => ∃ u, e = .returned u ∧ (∃ r, @VV (baseN w (KnowOk.nought (fun _ => 0) (fun _ => []))) r v u) ∧ Below w.heap.size w w' := by
 have ok := KnowOk.nought (fun _ => 0) (fun _ => [])
 letI : Base := baseN w ok
 have hS := sound_runsN ok (@sound_noneO w _ _ _ ok) 12 8
 cases hr : runY f p with
 | none => rw [hr] at h; cases h
 | some q =>
  obtain ⟨v', h'⟩ := q
  rw [hr] at h
  have hv := V.same_ok (show V.same v' v = true from h)
  subst hv
  exact (calls_flat w (Nat.zero_le _) (fun k hk => absurd hk (Nat.not_lt_zero k)) hS (args := [.g (typS p)]) (vs := [.agg (typV p).toArray]) ⟨⟨_, rfl, ⟨rfl, rfl, trivial⟩⟩, trivial⟩ hr).mono fun e w' ⟨u, r', e1, e2, e3⟩ => ⟨u, e1, ⟨r', e2⟩, e3⟩
theorem type_c {t : List Value} (h : All2 Kd.ok [.i .u8, .i .u8] t) (hk : okTy t = true) (w : World) : Calls Tryd.prog 48 #[.agg t.toArray] w (bld.Ans w (.tuple #[.string ⟨(typT t).toArray⟩, .int .i64 0])) := by
 obtain ⟨p, hp, rfl⟩ := types_mem h hk
 refine (run_calls w (List.all_eq_true.1 type_runs p hp)).mono ?_
 rintro e w' ⟨u, rfl, ⟨r, us, rfl, hu⟩, hb⟩
 match us, hu with
 | [x, y], ⟨h1, h2, _⟩ =>
  refine ⟨?_, hb⟩
  rw [show x = .string ⟨(typT (typV p)).toArray⟩ from h1, show y = .int .i64 0 from h2]
end Go.Proofs.YtglmonlofejcgaaDoor.txt
namespace Go.Proofs.YtglmonlofejcgaaDoor.bld
open Go.RowKit Go.Proofs.YtglmonlofejcgaaDoor Go.Proofs.YtglmonlofejcgaaDoor.Am Go.Proofs.YtglmonlofejcgaaDoor.loan
set_option linter.unusedVariables false
abbrev tB : TypeId := 75
abbrev tU : TypeId := 5
theorem bldR : (Tryd.prog.info? 75).map (·.size) = some 2 := by kernel_rfl
set_option maxHeartbeats 1000000 in
set_option maxRecDepth 100000 in
theorem check_used (b : Nat) (w : World) (h0 : w.cell? ⟨b, 0, none⟩ = some (.pointer (some ⟨b, 0, none⟩))) :
  Calls Tryd.prog 85 #[.pointer (some ⟨b, 0, none⟩)] w fun e w' => e = .returned (.tuple #[]) ∧ w' = w := by
 obtain ⟨j, hj, _⟩ := Option.map_eq_some_iff.1 bldR
 go_enter Tryd.func85, Tryd.ntmps85
 go_wp2
 rw [Lib.run_neq_ptr_same w _ Tryd.underlying72 hj]
 go_wp2
 go_end0
 exact ⟨rfl, rfl⟩
set_option maxHeartbeats 1000000 in
set_option maxRecDepth 100000 in
theorem check_fresh (b : Nat) (w : World) (h0 : w.cell? ⟨b, 0, none⟩ = some (.pointer none)) (hsh : w.shape? b = some (tB, 2)) (hfz : w.frozen? ⟨b, 0, none⟩ = false) :
  Calls Tryd.prog 85 #[.pointer (some ⟨b, 0, none⟩)] w fun e w' => e = .returned (.tuple #[]) ∧ w' = w.setCell ⟨b, 0, none⟩ (.pointer (some ⟨b, 0, none⟩)) := by
 obtain ⟨j, hj, hjs⟩ := Option.map_eq_some_iff.1 bldR
 go_enter Tryd.func85, Tryd.ntmps85
 go_wp2
 rw [Lib.run_to_unsafe w ⟨b, 0, none⟩ Tryd.underlying72 Tryd.underlying148 hj (by rw [hjs]; decide) hsh (Nat.zero_lt_succ 1)]
 simp only [Result.andThen]
 rw [Oper.upon_value]
 go_wp2
 rw [run_callFunc_extern Tryd.func104 (by kernel_rfl) (by kernel_rfl) (by kernel_rfl) (e := Extern.AbiNoEscape.same) (by kernel_rfl)]
 rw [Lib.run_noEscape]
 simp only [Result.andThen]
 rw [Oper.upon_value]
 go_wp2
 rw [Lib.run_from_unsafe w ⟨b, 0, none⟩ Tryd.underlying148 Tryd.underlying72 hj hsh (Tryd.Builder_Extra_169.liesBuilder)]
 simp only [Result.andThen]
 rw [Oper.upon_value]
 go_wp2
 go_end0
 exact ⟨rfl, rfl⟩
theorem check_c {b : Nat} {bs : List Value} {w : World} (h : Lib.IsBuilderF tB tU b b bs w) :
  Calls Tryd.prog 85 #[.pointer (some ⟨b, 0, none⟩)] w fun e w' => e = .returned (.tuple #[]) ∧ Lib.BuilderAtF tB tU b b (.pointer (some ⟨b, 0, none⟩)) bs w' ∧ Below b w w' ∧ Lib.OthersKept tU (some b) w w' := by
 rcases h with h | h
 ·refine (check_fresh b w h.cell0 h.shape h.frozen0).mono ?_
  rintro e w' ⟨rfl, rfl⟩
  exact ⟨rfl, h.used _, (Below.refl b w).setCell (p := ⟨b, 0, none⟩) h.1 _, (Lib.OthersKept.refl _ _ w).setCell ⟨b, 0, none⟩ rfl _⟩
 ·refine (check_used b w h.cell0).mono ?_
  rintro e w' ⟨rfl, rfl⟩
  exact ⟨rfl, h, Below.refl b _, Lib.OthersKept.refl _ _ _⟩
set_option maxHeartbeats 2000000 in
set_option maxRecDepth 100000 in
theorem writeByte_c {b : Nat} {l : List UInt8} (c : UInt8) {w : World} (h : Bld tB tU b l w) (hlen : l.length + 1 ≤ 140737488355328) :
  Calls Tryd.prog 80 #[.pointer (some ⟨b, 0, none⟩), .int .u8 c.toNat] w fun e w' => e = .returned .nilIface ∧ Bld tB tU b (l ++ [c]) w' ∧ Wrote tU b w w' := by
 have hBw : b ≤ w.heap.size := Nat.le_of_lt h.lt
 have hlen2 : (Lib.byteCells l).length + 1 ≤ 140737488355328 := by rw [Lib.byteCells_length l]; exact hlen
 clear hlen
 have hbc : Lib.byteCells (l ++ [c]) = Lib.byteCells l ++ [.int .u8 c.toNat] := Lib.byteCells_append l [c]
 unfold Bld at h ⊢
 rw [hbc]
 generalize Lib.byteCells l = bs at *
 generalize (c.toNat : Int) = c at *
 obtain ⟨i0, hi, hz0, hz1, hz2⟩ := info_parts Tryd.Builder_Extra_169.infoByte
 go_enter Tryd.func80, Tryd.ntmps80
 go_wp2_with (go_at_call 85; refine (check_c h).mono ?_)
 rintro e w1 ⟨rfl, h1, hb1, hk1⟩
 obtain ⟨hB, v, hbk, hown, hne⟩ := h1
 have c0 : w1.cell? ⟨b, 0, none⟩ = some (.pointer (some ⟨b, 0, none⟩)) := by rw [Lib.cell_of_heap hbk]; rfl
 have c1 : w1.cell? ⟨b, 1, none⟩ = some v := by rw [Lib.cell_of_heap hbk]; rfl
 go_wp2_with (at_builtin; refine wpList_append_ownF _ rfl _ _ 73 rfl b tU i0 (.int .u8 0) 1 1 Tryd.underlying73 hi hz0 hz1 hz2 rfl (by decide) _ _ _ rfl (hown.alloc _) ⟨w1.heap.size, 0, none⟩ 1 1 [.int .u8 c] rfl rfl ?c1 ?c2 ?c3 ?c4 ?c5 ?_)
 case c1 =>
  intro j u hj
  match j, hj with
  | 0, hj => simp at hj; subst hj; simp [Addr.add]
 case c2 => intro u hu; simp at hu; subst hu; rfl
 case c3 => unfold maxLen; omega
 case c4 => omega
 case c5 => have := hb1.size; simp; omega
 intro v' w2 hown' hgrow _
 have hlt : b < w1.heap.size := (Array.getElem?_eq_some_iff.1 hbk).1
 have hb2 : w2.heap[b]? = some (.cells #[.pointer (some ⟨b, 0, none⟩), v] tB (0, 0)) := by
  rw [hgrow.block b (by simp; omega) (fun e => hne e.symm), Lib.alloc_old w1 _ b hlt]
  exact hbk
 have d0 : w2.cell? ⟨b, 0, none⟩ = some (.pointer (some ⟨b, 0, none⟩)) := by rw [Lib.cell_of_heap hb2]; rfl
 have d1 : w2.cell? ⟨b, 1, none⟩ = some v := by rw [Lib.cell_of_heap hb2]; rfl
 have f1 : w2.frozen? ⟨b, 1, none⟩ = false := Lib.frozen_of_heap hb2 1
 obtain ⟨g, cap, rfl⟩ : ∃ g cap, v' = .slice (some ⟨g, 0, none⟩) (bs.length + 1) cap := by
  rcases hown'.2 with ⟨_, h0⟩ | ⟨g, cap, cur, fz, hv, _⟩
  ·omega
  ·exact ⟨g, cap, hv⟩
 go_wp2
 go_ret
 refine ⟨rfl, .inr ?_, ?_, ((hk1.alloc _).grown hgrow (Lib.ownsRowF_kind (hown.alloc _))).setCell ⟨b, 1, none⟩ rfl _⟩
 ·exact Lib.BuilderAtF.put (T := tB) (e := tU) hB hb2 (bs' := bs ++ [.int .u8 c]) (by simpa using hown') Tryd.Builder_Extra_169.neB5
 ·exact ((hb1.alloc (by have := hb1.size; omega) _).grown hgrow (by have := hb1.size; simp; omega) (fun k hk => (hown.lt k hk).1)).setCell (p := ⟨b, 1, none⟩) hB _
set_option maxHeartbeats 2000000 in
set_option maxRecDepth 100000 in
theorem writeString_c {b : Nat} {l : List UInt8} (m : List UInt8) {w : World} (h : Bld tB tU b l w) (hlen : l.length + m.length ≤ 140737488355328) :
  Calls Tryd.prog 56 #[.pointer (some ⟨b, 0, none⟩), .string ⟨m.toArray⟩] w fun e w' => (∃ v, e = .returned v) ∧ Bld tB tU b (l ++ m) w' ∧ Wrote tU b w w' := by
 have hBw : b ≤ w.heap.size := Nat.le_of_lt h.lt
 have hlen2 : (Lib.byteCells l).length + m.length ≤ 140737488355328 := by rw [Lib.byteCells_length l]; exact hlen
 clear hlen
 have hbc : Lib.byteCells (l ++ m) = Lib.byteCells l ++ Lib.strCells ⟨m.toArray⟩ := by rw [str_cells]; exact Lib.byteCells_append l m
 have hsz : (⟨m.toArray⟩ : ByteArray).size = m.length := by simp [ByteArray.size]
 rw [← hsz] at hlen2
 clear hsz
 unfold Bld at h ⊢
 rw [hbc]
 generalize (⟨m.toArray⟩ : ByteArray) = s at *
 generalize Lib.byteCells l = bs at *
 obtain ⟨i0, hi, hz0, hz1, hz2⟩ := info_parts Tryd.Builder_Extra_169.infoByte
 go_enter Tryd.func56, Tryd.ntmps56
 go_wp2_with (go_at_call 85; refine (check_c h).mono ?_)
 rintro e w1 ⟨rfl, h1, hb1, hk1⟩
 obtain ⟨hB, v, hbk, hown, hne⟩ := h1
 have c0 : w1.cell? ⟨b, 0, none⟩ = some (.pointer (some ⟨b, 0, none⟩)) := by rw [Lib.cell_of_heap hbk]; rfl
 have c1 : w1.cell? ⟨b, 1, none⟩ = some v := by rw [Lib.cell_of_heap hbk]; rfl
 go_wp2_with (at_builtin; refine Lib.wpList_append_own_stringF _ rfl _ _ 73 9 rfl b tU i0 Tryd.underlying73 Tryd.underlying9 hi hz0 hz1 hz2 _ _ _ rfl hown s rfl ?c3 ?c4 ?c5 ?_)
 case c3 => unfold maxLen; omega
 case c4 => omega
 case c5 => have := hb1.size; omega
 intro v' w2 hown' hgrow _
 have hlt : b < w1.heap.size := (Array.getElem?_eq_some_iff.1 hbk).1
 have hb2 : w2.heap[b]? = some (.cells #[.pointer (some ⟨b, 0, none⟩), v] tB (0, 0)) := by
  rw [hgrow.block b hlt (fun e => hne e.symm)]
  exact hbk
 have d0 : w2.cell? ⟨b, 0, none⟩ = some (.pointer (some ⟨b, 0, none⟩)) := by rw [Lib.cell_of_heap hb2]; rfl
 have d1 : w2.cell? ⟨b, 1, none⟩ = some v := by rw [Lib.cell_of_heap hb2]; rfl
 have f1 : w2.frozen? ⟨b, 1, none⟩ = false := Lib.frozen_of_heap hb2 1
 obtain ⟨ao, n', cap, rfl⟩ : ∃ ao n' cap, v' = .slice ao n' cap := by
  rcases hown'.2 with ⟨hv, _⟩ | ⟨g, cap, cur, fz, hv, _⟩
  ·exact ⟨_, _, _, hv⟩
  ·exact ⟨_, _, _, hv⟩
 go_wp2
 go_ret2
 refine ⟨⟨_, rfl⟩, .inr ?_, ?_, (hk1.grown hgrow (Lib.ownsRowF_kind hown)).setCell ⟨b, 1, none⟩ rfl _⟩
 ·exact Lib.BuilderAtF.put (T := tB) (e := tU) hB hb2 (bs' := bs ++ Lib.strCells s) (by simpa [Lib.strCells_length] using hown') Tryd.Builder_Extra_169.neB5
 ·exact (hb1.grown hgrow (by have := hb1.size; omega) (fun k hk => (hown.lt k hk).1)).setCell (p := ⟨b, 1, none⟩) hB _
end Go.Proofs.YtglmonlofejcgaaDoor.bld
namespace Go.Proofs.YtglmonlofejcgaaDoor
open Go.RowKit Go.Proofs.YtglmonlofejcgaaDoor.Am Go.Proofs.YtglmonlofejcgaaDoor.loan
set_option linter.unusedVariables false
section
variable {P : Program} {ops : Array Oper} {Q : Exit → Act → World → Prop}
def Cells (L : List Addr) (w w' : World) : Prop := ∀ p ∈ L, w'.cell? p = w.cell? p
theorem Cells.get {L : List Addr} {w w' : World} {p : Addr} {u : Value} (h : Cells L w w') (hp : p ∈ L) (hc : w.cell? p = some u) : w'.cell? p = some u := (h p hp).trans hc
theorem Cells.refl (L : List Addr) (w : World) : Cells L w w := fun _ _ => rfl
theorem Cells.of_ext {L : List Addr} {w w' : World} (h : Below w.heap.size w w') (hL : ∀ p ∈ L, p.block < w.heap.size) : Cells L w w' := fun p hp => h.cell (p := p) (hL p hp)
theorem region_cells (L : List Addr) {id : Nat} {a : Act} {w : World} (r : List (Nat × Bool)) (hm : P.follows .mixedOrders = true) (hs : Region.noSelect ops = true) (hlen : r.length ≤ ops.size) (hok : okOrder .any ops r (Array.replicate ops.size false) = true)
  (hQ : ∀ (d : Tmp) (v : Value) c a w, Q (.panic c) (a.put (some d) v) w → Q (.panic c) a w) (h : SeqE P ops Q (Cells L) r a w.drew) : (Code.region id ops true).wp P Q a w :=
 wp_region_any hm (wpAny_of_E _ _ _ _ (seqE_any (fun w => Cells.refl L w) (fun _ _ _ h k p hp => (k p hp).trans (h p hp)) hs (fun d v c a w h => match d, h with | none, h => h | some d, h => hQ d v c a w h) r _ _ _ _ hlen hok h))
theorem SeqC.take {L : List Addr} {i : Nat} {o : Oper} {r : List (Nat × Bool)} {a : Act} {w : World} {v : Value} (ho : ops.toList[i]? = some o) (hw : Region.wanted o (yielded ops a.tmps) = true) (hrun : ∀ W, Cells L w W → (execOp a.eval o).run P W = .ok (.value v) W)
  (h : SeqE P ops Q (Cells L) r (a.put o.dst v) w) : SeqE P ops Q (Cells L) ((i, true) :: r) a w := ⟨o, v, op_of ho, .inl ⟨hw, hrun⟩, h⟩
theorem SeqC.skip {L : List Addr} {i : Nat} {o : Oper} {r : List (Nat × Bool)} {a : Act} {w : World} (ho : ops.toList[i]? = some o) (hw : Region.wanted o (yielded ops a.tmps) = false)
  (h : SeqE P ops Q (Cells L) r (a.put o.dst undef) w) : SeqE P ops Q (Cells L) ((i, true) :: r) a w := ⟨o, undef, op_of ho, .inr ⟨hw, rfl⟩, h⟩
theorem SeqC.pass {L : List Addr} {i : Nat} {o : Oper} {r : List (Nat × Bool)} {a : Act} {w : World} (ho : ops.toList[i]? = some o) (hw : Region.wanted o (yielded ops a.tmps) = false)
  (h : SeqE P ops Q (Cells L) r (a.put o.dst undef) w) : SeqE P ops Q (Cells L) ((i, false) :: r) a w :=
 wpOp_step (op_of ho) fun K' hK => by rw [hw]; exact hK _ _ ⟨Cells.refl _ _, h⟩
theorem SeqC.step {L : List Addr} {i : Nat} {o : Oper} {r : List (Nat × Bool)} {a : Act} {w : World} (ho : ops.toList[i]? = some o) (hw : Region.wanted o (yielded ops a.tmps) = true)
  (h : ∀ K' : Act → World → Prop, (∀ a w', Cells L w w' → SeqE P ops Q (Cells L) r a w' → K' a w') → Oper.wp P o a w K' Q) : SeqE P ops Q (Cells L) ((i, false) :: r) a w :=
 wpOp_step (op_of ho) fun K' hK => by rw [hw]; exact h K' fun a w' he hs => hK a w' ⟨he, hs⟩
theorem SeqC.val {L : List Addr} {i : Nat} {o : Oper} {r : List (Nat × Bool)} {a : Act} {w w' : World} {v : Value} (ho : ops.toList[i]? = some o) (hw : Region.wanted o (yielded ops a.tmps) = true)
  (hrun : (execOp a.eval o).run P w = .ok (.value v) w') (he : Cells L w w') (h : SeqE P ops Q (Cells L) r (a.put o.dst v) w') : SeqE P ops Q (Cells L) ((i, false) :: r) a w :=
 SeqC.step ho hw fun K' hK => by
  unfold Oper.wp
  rw [hrun]
  simp only [Oper.upon]
  exact hK _ _ he h
theorem SeqC.call {L : List Addr} {i : Nat} {o : Oper} {r : List (Nat × Bool)} {a : Act} {w : World} {f : FuncId} {args : Array Value} (ho : ops.toList[i]? = some o) (hw : Region.wanted o (yielded ops a.tmps) = true)
  (hrun : (execOp a.eval o).run P w = .ok (.enter f args) w) (h : Calls P f args w fun e w' => ∃ v, e = .returned v ∧ Cells L w w' ∧ SeqE P ops Q (Cells L) r (a.put o.dst v) w') : SeqE P ops Q (Cells L) ((i, false) :: r) a w :=
 SeqC.step ho hw fun K' hK => by
  unfold Oper.wp
  rw [hrun]
  simp only [Oper.upon]
  refine h.mono ?_
  rintro e w' ⟨v, rfl, he, hs⟩
  exact hK _ _ he hs
theorem SeqC.done {L : List Addr} {a : Act} {w : World} (h : Q .normal a w) : SeqE P ops Q (Cells L) [] a w := h
end
end Go.Proofs.YtglmonlofejcgaaDoor
namespace Go.Proofs.YtglmonlofejcgaaDoor.txt
open Go.RowKit Go.Proofs.YtglmonlofejcgaaDoor Go.Proofs.YtglmonlofejcgaaDoor.Am Go.Proofs.YtglmonlofejcgaaDoor.loan Go.Proofs.YtglmonlofejcgaaDoor.bld
set_option linter.unusedVariables false
abbrev tS1 : TypeId := 9
abbrev tPB : TypeId := 72
def Wr (b : Nat) (l : List UInt8) (W : World) (e : Ending) (W' : World) : Prop := e = .returned (.tuple #[]) ∧ Bld tB tU b l W' ∧ Wrote tU b W W'
theorem nl_c {b : Nat} {l : List UInt8} {w : World} (h : Bld tB tU b l w) (hlen : l.length + 1 ≤ 140737488355328) :
  Calls Tryd.prog 80 #[.pointer (some ⟨b, 0, none⟩), .int .u8 10] w fun e w' => e = .returned .nilIface ∧ Bld tB tU b (l ++ [10]) w' ∧ Wrote tU b w w' := writeByte_c 10 h hlen
theorem flat_le {l : List (List UInt8)} {i : Nat} {s : List UInt8} (h : l[i]? = some s) : (l.take i).flatten.length + s.length ≤ l.flatten.length := by
 have h1 : l.flatten = (l.take (i + 1)).flatten ++ (l.drop (i + 1)).flatten := by rw [← List.flatten_append, List.take_append_drop]
 have h2 : l.take (i + 1) = l.take i ++ [s] := by rw [List.take_add_one, h]; rfl
 rw [h1, h2, List.flatten_append]
 simp only [List.length_append, List.flatten_cons, List.flatten_nil, List.append_nil]
 omega
set_option maxHeartbeats 2000000 in
set_option maxRecDepth 100000 in
theorem line_c {b : Nat} {acc : List UInt8} {A : Option Addr} {c : Nat} {parts : List (List UInt8)} {w : World} (h : Bld tB tU b acc w) (hp : StrsAt w b tU A parts) (hlen : acc.length + parts.flatten.length + 1 ≤ 140737488355328) (hn : (parts.length : Int) ≤ 1000) :
  Calls Tryd.prog 47 #[.pointer (some ⟨b, 0, none⟩), .slice A parts.length c] w (Wr b (acc ++ (parts.flatten ++ [10])) w) := by
 have HP := Lib.hid hp
 have HB := Lib.hid h
 clear hp h
 go_enter Tryd.func47, Tryd.ntmps47
 go_wp2
 go_loopg [8] parts.length (fun g s8 wr => ∃ i : Nat, s8 = .int .i64 i ∧ i ≤ parts.length ∧ g = parts.length - i ∧ Bld tB tU b (acc ++ (parts.take i).flatten) wr ∧ Wrote tU b w wr)
 case atStart => exact ⟨0, rfl, Nat.zero_le _, rfl, by simpa using HB.out, .refl _ _ _⟩
 case round =>
  obtain ⟨i, rfl, hi, rfl, hb, hw⟩ := hrel
  have h0I : (0 : Int) ≤ (i : Int) := Int.natCast_nonneg _
  have HW := Lib.hid hw
  have HBI := Lib.hid hb
  have hp := HP.out.wrote hw
  clear hw hb
  rcases Nat.lt_or_ge i parts.length with hlt | hge
  ·have hltI : (i : Int) < (parts.length : Int) := by omega
   obtain ⟨s, hs⟩ : ∃ s, parts[i]? = some s := ⟨_, List.getElem?_eq_getElem hlt⟩
   obtain ⟨g, o, eA, hc⟩ := hp.cell hs
   subst eA
   have hfl := flat_le hs
   have HS := Lib.hid hs
   clear hs hp
   go_wp2_with (go_at_call 56; refine (writeString_c s HBI.out (by rw [List.length_append]; omega)).mono ?_; rintro e w2 ⟨⟨v, rfl⟩, hb2, hw2⟩)
   go_roundg (parts.length - (i + 1))
   case measure => omega
   case rel =>
    refine ⟨i + 1, by simp, by omega, rfl, ?_, HW.out.trans hw2⟩
    rw [List.take_add_one, HS.out, List.flatten_append]
    simpa using hb2
  ·obtain rfl : i = parts.length := by omega
   have hl2 := HBI.out
   rw [List.take_length] at hl2
   have HL := Lib.hid hl2
   clear hl2 hp
   go_wp2_with (go_at_call 80; refine (nl_c HL.out (by rw [List.length_append]; omega)).mono ?_; rintro e w2 ⟨rfl, hb2, hw2⟩)
   go_end0
   exact ⟨rfl, by rw [← List.append_assoc]; exact hb2, HW.out.trans hw2⟩
end Go.Proofs.YtglmonlofejcgaaDoor.txt
namespace Go.Proofs.YtglmonlofejcgaaDoor.txt
open Go.RowKit Go.Proofs.YtglmonlofejcgaaDoor Go.Proofs.YtglmonlofejcgaaDoor.Am Go.Proofs.YtglmonlofejcgaaDoor.loan Go.Proofs.YtglmonlofejcgaaDoor.bld
set_option linter.unusedVariables false
set_option maxHeartbeats 2000000 in
set_option maxRecDepth 100000 in
theorem in_c {b X : Nat} {acc m : List UInt8} {w : World} (h : Bld tB tU b acc w) (hX : w.heap[X]? = some (.cells #[.pointer (some ⟨b, 0, none⟩)] tPB (0, 0))) (hlen : acc.length + m.length ≤ 100000000000) :
  Calls Tryd.prog 49 #[.string ⟨m.toArray⟩, .int .i64 0, .pointer (some ⟨X, 0, none⟩)] w (Wr b (acc ++ (([32, 32] ++ m) ++ [10])) w) := by
 have hc : w.cell? ⟨X, 0, none⟩ = some (.pointer (some ⟨b, 0, none⟩)) := by rw [cell_of_row w X 0 _ tPB (0, 0) hX]; rfl
 have HB := Lib.hid h
 have hbl := h.lt
 clear h hX
 go_enter Tryd.func49, Tryd.ntmps49
 have hb1 : Below w.heap.size w (w.alloc (.cells #[.string ⟨#[32, 32]⟩, .string ⟨m.toArray⟩] tS1)) := (Below.refl _ _).alloc (Nat.le_refl _) _
 have HL := Lib.hid (line_c (c := 2) (parts := [[32, 32], m]) (HB.out.below hb1) (StrsAt.new (b := b) (t := tS1) (l := [[32, 32], m]) (Nat.ne_of_gt hbl) (by decide) (at_alloc rfl)) (by simp; omega) (by simp))
 have HW := Lib.hid (Wrote.of_below (e := tU) hb1 (Nat.le_of_lt hbl))
 clear hb1
 go_wp2_with (go_at_call 47; refine HL.out.mono ?_; rintro e w2 ⟨rfl, hb2, hw2⟩)
 go_end0
 exact ⟨rfl, by simpa using hb2, HW.out.trans hw2⟩
end Go.Proofs.YtglmonlofejcgaaDoor.txt
