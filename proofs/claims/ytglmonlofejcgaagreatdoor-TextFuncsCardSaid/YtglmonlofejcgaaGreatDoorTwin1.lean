/- pawnshopref07.Twin: a copy of a function that shares no memory. -/
import Derived.Test.YtglmonlofejcgaaGreatDoorTwinA
import Derived.Test.YtglmonlofejcgaaGreatDoorCore
import Derived.Test.YtglmonlofejcgaaGreatDoorReg
import Derived.Test.YtglmonlofejcgaaGreatDoorProg
import Derived.Deep.DeepCutAuto
import Derived.Deep.LoopGhost
set_option linter.unusedVariables false
set_option linter.unusedSectionVars false
namespace Go.Proofs.YtglmonlofejcgaaGreatDoor.twin
open Go.RowKit Am
def z8 : Value := .int .u8 0
def z6 : Value := .int .i64 0
def zb : Value := .bool false
def zT : Value := .agg #[z8, z8]
def zO : Value := .agg #[z8, z6, z6, zb, z8]
def zS : Value := .agg #[z8, z6, zb, z8, z8, z8, z8, z8, z6, z6, zb, z8, z8, z6, z6, zb, z8, z6, zb, z8, z8, z6, z6, zb, z8, z6]
def zB : Value := .agg #[.slice none 0 0, z8, z8, z6, z6, zb, z8, z6, z6, z6, .slice none 0 0, z6, zb, z8]
theorem rowT : (Tryz.prog.info? 73).map (fun i => (i.zero, i.size, i.bytes)) = some (some zT, 2, 2) := by kernel_rfl
theorem Oi : (Tryz.prog.info? 55).map (fun i => (i.zero, i.size, i.bytes)) = some (some zO, 5, 32) := by kernel_rfl
theorem ajX : (Tryz.prog.info? 78).map (fun i => (i.zero, i.size, i.bytes)) = some (some zS, 26, 152) := by kernel_rfl
theorem rowB : (Tryz.prog.info? 60).map (fun i => (i.zero, i.size, i.bytes)) = some (some zB, 14, 128) := by kernel_rfl
abbrev tF : TypeId := 25
abbrev tTy : TypeId := 73
abbrev tBl : TypeId := 60
abbrev tSt : TypeId := 78
abbrev tOp : TypeId := 55
def amx (base : Nat) (ls : List (List Value)) (p : Int) (u : Bool) (W0 : World) (s3 : Value) (wx : World) : Prop :=
 ∃ (T g c : Nat), s3 = .pointer (some ⟨T, 0, none⟩) /\ wx.heap[T]? = some (.cells #[.int .i64 p, .bool u, .slice (some ⟨g, 0, none⟩) ls.length c, .slice none 0 0] tF (0, 0)) /\ wx.ownsRow base tTy 2 (.slice (some ⟨g, 0, none⟩) ls.length c) ls.length ls.flatten /\ T ≠ g /\ base <= T /\ Below base W0 wx
theorem TT {w W : World} {sv : Value} {sz : Nat} {els : List (List Value)} (h : bV w sv sz els) (hb : Below w.heap.size w W) : bV W sv sz els := h.frz hb.block
theorem amd {l : List Value} (h : ak Kd.ok [.i .u8, .i .u8, .i .i64, .i .i64, .b, .i .u8, .i .i64, .i .i64, .i .i64] l) : ∃ (x0 x1 x2 x3 : Int) (b4 : Bool) (x5 x6 x7 x8 : Int), l = [.int .u8 x0, .int .u8 x1, .int .i64 x2, .int .i64 x3, .bool b4, .int .u8 x5, .int .i64 x6, .int .i64 x7, .int .i64 x8] := by
 obtain ⟨v0, l0, rfl, ⟨x0, rfl, _⟩, q0⟩ := aN h
 obtain ⟨v1, l1, rfl, ⟨x1, rfl, _⟩, q1⟩ := aN q0
 obtain ⟨v2, l2, rfl, ⟨x2, rfl, _⟩, q2⟩ := aN q1
 obtain ⟨v3, l3, rfl, ⟨x3, rfl, _⟩, q3⟩ := aN q2
 obtain ⟨v4, l4, rfl, ⟨b4, rfl⟩, q4⟩ := aN q3
 obtain ⟨v5, l5, rfl, ⟨x5, rfl, _⟩, q5⟩ := aN q4
 obtain ⟨v6, l6, rfl, ⟨x6, rfl, _⟩, q6⟩ := aN q5
 obtain ⟨v7, l7, rfl, ⟨x7, rfl, _⟩, q7⟩ := aN q6
 obtain ⟨v8, l8, rfl, ⟨x8, rfl, _⟩, q8⟩ := aN q7
 obtain rfl := yV q8
 exact ⟨_, _, _, _, _, _, _, _, _, rfl⟩
theorem alT {l : List Value} (h : ak Kd.ok [.i .i64, .b, .i .u8] l) : ∃ (x0 : Int) (b1 : Bool) (x2 : Int), l = [.int .i64 x0, .bool b1, .int .u8 x2] := by
 obtain ⟨v0, l0, rfl, ⟨x0, rfl, _⟩, q0⟩ := aN h
 obtain ⟨v1, l1, rfl, ⟨b1, rfl⟩, q1⟩ := aN q0
 obtain ⟨v2, l2, rfl, ⟨x2, rfl, _⟩, q2⟩ := aN q1
 obtain rfl := yV q2
 exact ⟨_, _, _, rfl⟩
def am0 (wr : World) (els : List (List Value)) (jc : List Value) (s5 : Value) (wx : World) : Prop :=
 ∃ (T g c : Nat), s5 = .pointer (some ⟨T, 0, none⟩) /\ wx.heap[T]? = some (.cells (.slice (some ⟨g, 0, none⟩) els.length c :: jc).toArray tBl (0, 0)) /\ wx.ownsRow wr.heap.size tSt 26 (.slice (some ⟨g, 0, none⟩) els.length c) els.length els.flatten /\ T ≠ g /\ wr.heap.size <= T /\ Below wr.heap.size wr wx
theorem lN {P : Program} {o : Oper} {a : Act} {W : World} (ty : TypeId) (x : Operand) (ho : o.op = .load ty x) (b off : Nat) (hx : a.eval x = .pointer (some ⟨b, off, none⟩)) (cs : List Value) (d : TypeDesc) (hc : W.rangeAt b off cs) (hu : P.underlying ty = some d) (hd : d.isRow = true) (hi : (P.info? ty).map (·.size) = some cs.length) :
  (execOp a.eval o).run P W = .ok (.value (.agg cs.toArray)) W := by
 unfold execOp
 simp only [ho, hx, Instr.loadAt, Instr.sureAddr, Sem.run_bind, Sem.run_pure, Result.andThen_ok, run_loadVar_mid W b off ty cs d hc hu hd hi]
def tJ (b : bH) : List Nat := fF b.s ++ fF b.a
structure alx (base T g c : Nat) (D : FnD) (p : Int) (u : Bool) (W0 wr : World) (i : Nat) (bv' : Value) (Bs : List bH) : Prop where
 core : Bs.map bH.core = (D.bs.take i).map bH.core
 hT : wr.heap[T]? = some (.cells #[.int .i64 p, .bool u, .slice (some ⟨g, 0, none⟩) D.ls.length c, bv'] tF (0, 0))
 ol : wr.ownsRow base tTy 2 (.slice (some ⟨g, 0, none⟩) D.ls.length c) D.ls.length D.ls.flatten
 ob : wr.ownsRow base tBl 14 bv' Bs.length (Bs.map bH.cells).flatten
 os : ∀ b ∈ Bs, wr.ownsRow base tSt 26 b.s b.st.length b.st.flatten /\ wr.ownsRow base tOp 5 b.a b.ops.length b.ops.flatten
 nd : (T :: g :: (fF bv' ++ Bs.flatMap tJ)).Nodup
 bel : Below base W0 wr
structure aiE (base : Nat) (w' : World) (D : FnD) (g c : Nat) (bv' : Value) (Bs : List bH) : Prop where
 core : Bs.map bH.core = D.bs.map bH.core
 ol : w'.ownsRow base tTy 2 (.slice (some ⟨g, 0, none⟩) D.ls.length c) D.ls.length D.ls.flatten
 ob : w'.ownsRow base tBl 14 bv' Bs.length (Bs.map bH.cells).flatten
 os : ∀ b ∈ Bs, w'.ownsRow base tSt 26 b.s b.st.length b.st.flatten /\ w'.ownsRow base tOp 5 b.a b.ops.length b.ops.flatten
 nd : (g :: (fF bv' ++ Bs.flatMap tJ)).Nodup
def agG (w : World) (D : FnD) (e : Ending) (w' : World) : Prop :=
 ∃ (g c : Nat) (bv' : Value) (Bs : List bH), e = .returned (.agg #[.int .i64 D.p, .bool D.u, .slice (some ⟨g, 0, none⟩) D.ls.length c, bv']) /\ aiE w.heap.size w' D g c bv' Bs /\ Below w.heap.size w w'
set_option maxRecDepth 100000 in
set_option maxHeartbeats 4000000 in
theorem any {w : World} {v : Value} {D : FnD} (h : aT w v D) (hl : D.ls.length <= 30) (hb : D.bs.length <= 30) (h1 : ∀ el ∈ D.ls, ∀ u ∈ el, u.oneCell' = true) (hS1 : ∀ b, lq w b -> ∀ el ∈ b.st, ∀ u ∈ el, u.oneCell' = true) (hO1 : ∀ b, lq w b -> ∀ el ∈ b.ops, ∀ u ∈ el, u.oneCell' = true) (hSl : ∀ b ∈ D.bs, b.st.length <= 30) (hOl : ∀ b ∈ D.bs, b.ops.length <= 30) : Calls Tryz.prog 8 #[v] w (agG w D) := by
 obtain ⟨iB, hiB, hzB, hsB, hyB⟩ := info_parts rowB
 rw [h.eq]
 have HLL := h.locals
 have HBL := h.blocks
 obtain ⟨Ab, cb, eb⟩ := h.blocks.sl
 rw [List.length_map] at eb
 rw [eb] at HBL |-
 have EB := Lib.hid eb
 clear eb
 generalize hbv : Value.slice Ab D.bs.length cb = bv
 have hbv' := Lib.hid hbv
 generalize hlv : D.lv = lv at *
 generalize hp : D.p = p at *
 generalize hu : D.u = u at *
 have HP := Lib.hid hp
 have HU := Lib.hid hu
 clear hp hu
 have HL := Lib.hid hlv
 clear hlv hbv
 go_enter Tryz.func8, Tryz.ntmps8
 go_upto_region 1 with fail
 go_cut [3] (fun s3 wx => amx (w.heap.size + 2) D.ls p u ((w.alloc (.cells #[.int .i64 p, .bool u, lv, bv] tF)).alloc (.cells #[.int .i64 0, .bool false, .slice none 0 0, .slice none 0 0] tF)) s3 wx)
 case first =>
  have b0 : Below w.heap.size w ((w.alloc (.cells #[.int .i64 p, .bool u, lv, bv] tF)).alloc (.cells #[.int .i64 0, .bool false, .slice none 0 0, .slice none 0 0] tF)) := ((Below.refl _ _).alloc (Nat.le_refl _) _).alloc (by simp) _
  have sz : ((w.alloc (.cells #[.int .i64 p, .bool u, lv, bv] tF)).alloc (.cells #[.int .i64 0, .bool false, .slice none 0 0, .slice none 0 0] tF)).heap.size = w.heap.size + 2 := by simp
  have g0 : ((w.alloc (.cells #[.int .i64 p, .bool u, lv, bv] tF)).alloc (.cells #[.int .i64 0, .bool false, .slice none 0 0, .slice none 0 0] tF)).heap[w.heap.size]? = some (.cells #[.int .i64 p, .bool u, lv, bv] tF (0, 0)) := oH (cu rfl)
  generalize ((w.alloc (.cells #[.int .i64 p, .bool u, lv, bv] tF)).alloc (.cells #[.int .i64 0, .bool false, .slice none 0 0, .slice none 0 0] tF)) = W0 at *
  have gW : ∀ W, Below (w.heap.size + 2) W0.drew W -> ∀ k, W.cell? ⟨w.heap.size, k, none⟩ = #[.int .i64 p, .bool u, lv, bv][k]? := fun W hW k => (cell_of_row W w.heap.size k _ tF (0, 0) ((hW.block _ (by omega)).trans g0))
  refine qN (w.heap.size + 2) (by kernel_rfl) ?_
  refine AnyE.take (i := 0) (v := ?_) (by kernel_rfl) rfl (by kernel_rfl) (by kernel_rfl) (fun _ _ _ _ _ h => h) (by rfl) (fun W hW => ?_) ?_
  rotate_left
  focus (have c0 := gW W hW 0; have c1 := gW W hW 1; have c2 := gW W hW 2; go_simp; with_reducible rfl)
  simp only [Act.put, List.setIfInBounds_toArray, List.set_cons_zero, List.set_cons_succ]
  refine AnyE.take (i := 1) (v := ?_) (by kernel_rfl) rfl (by kernel_rfl) (by kernel_rfl) (fun _ _ _ _ _ h => h) (by rfl) (fun W hW => ?_) ?_
  rotate_left
  focus (have c0 := gW W hW 0; have c1 := gW W hW 1; have c2 := gW W hW 2; go_simp; with_reducible rfl)
  simp only [Act.put, List.setIfInBounds_toArray, List.set_cons_zero, List.set_cons_succ]
  refine AnyE.take (i := 2) (v := ?_) (by kernel_rfl) rfl (by kernel_rfl) (by kernel_rfl) (fun _ _ _ _ _ h => h) (by rfl) (fun W hW => ?_) ?_
  rotate_left
  focus (have c0 := gW W hW 0; have c1 := gW W hW 1; have c2 := gW W hW 2; go_simp; with_reducible rfl)
  simp only [Act.put, List.setIfInBounds_toArray, List.set_cons_zero, List.set_cons_succ]
  refine AnyE.take (i := 3) (v := ?_) (by kernel_rfl) rfl (by kernel_rfl) (by kernel_rfl) (fun _ _ _ _ _ h => h) (by rfl) (fun W hW => ?_) ?_
  rotate_left
  focus (have c0 := gW W hW 0; have c1 := gW W hW 1; have c2 := gW W hW 2; go_simp; with_reducible rfl)
  simp only [Act.put, List.setIfInBounds_toArray, List.set_cons_zero, List.set_cons_succ]
  refine AnyE.take (i := 5) (v := ?_) (by kernel_rfl) rfl (by kernel_rfl) (by kernel_rfl) (fun _ _ _ _ _ h => h) (by rfl) (fun W hW => ?_) ?_
  rotate_left
  focus (have c0 := gW W hW 0; have c1 := gW W hW 1; have c2 := gW W hW 2; go_simp; with_reducible rfl)
  simp only [Act.put, List.setIfInBounds_toArray, List.set_cons_zero, List.set_cons_succ]
  refine AnyE.take (i := 6) (v := ?_) (by kernel_rfl) rfl (by kernel_rfl) (by kernel_rfl) (fun _ _ _ _ _ h => h) (by rfl) (fun W hW => ?_) ?_
  rotate_left
  focus (have c0 := gW W hW 0; have c1 := gW W hW 1; have c2 := gW W hW 2; go_simp; with_reducible rfl)
  simp only [Act.put, List.setIfInBounds_toArray, List.set_cons_zero, List.set_cons_succ]
  have bD : Below (w.heap.size + 2) W0 W0.drew := (Below.refl _ _).drew
  have sD : W0.drew.heap.size = w.heap.size + 2 := sz
  have HLW : ∀ {W : World}, Below (w.heap.size + 2) W0 W -> bV W lv 2 D.ls := fun hW => TT HLL (b0.trans (hW.mono (by omega)))
  refine AnyE.all (rs := [4, 9]) (by kernel_rfl) rfl (fun i hi => ?_)
  simp only [List.mem_cons, List.not_mem_nil, or_false] at hi
  rcases hi with rfl | rfl
  ·refine jP (by rfl) (by rfl) (fun H => .slice (some ⟨H, 0, none⟩) 0 0) #[] tTy (by go_simp) (by omega) fun R wn0 eR hR kN bN sN => ?_
   simp only [Act.put, List.setIfInBounds_toArray, List.set_cons_zero, List.set_cons_succ]
   have bwn0 := bD.trans bN
   have zwn0 : w.heap.size + 2 <= wn0.heap.size := by omega
   have own0 : wn0.ownsRow (w.heap.size + 2) tTy 2 (.slice (some ⟨R, 0, none⟩) 0 0) 0 [] := sW hR (by omega)
   refine AnyE.all (rs := [7, 9]) (by kernel_rfl) rfl (fun i hi => ?_)
   simp only [List.mem_cons, List.not_mem_nil, or_false] at hi
   rcases hi with rfl | rfl
   ·refine yI (by rfl) (by rfl) _ _ (w.heap.size + 2) _ tTy zT 2 2 (by rfl) Tryz.underlying22 rowT (by rfl) (by omega) (by rfl) own0 (by rfl) (HLW bwn0) h1 (by omega) (by omega) (by omega) (Nat.le_refl _) (.inl (by simp [Value.ownBlock])) fun g c wn1 own1 kA bA sA gA ltA => ?_
    simp only [Act.put, List.setIfInBounds_toArray, List.set_cons_zero, List.set_cons_succ, Nat.zero_add]
    have bwn1 := bwn0.trans bA
    have zwn1 : w.heap.size + 2 <= wn1.heap.size := by omega
    rw [Nat.zero_add, List.nil_append] at own1
    have gR : g = R \/ g = wn0.heap.size := gA.imp (fun e => (Option.some.inj e).symm) id
    refine AnyE.take (i := 8) (v := ?_) (by kernel_rfl) rfl (by kernel_rfl) (by kernel_rfl) (fun _ _ _ _ _ h => h) (by rfl) (fun W hW => ?_) ?_
    rotate_left
    focus (go_simp; with_reducible rfl)
    simp only [Act.put, List.setIfInBounds_toArray, List.set_cons_zero, List.set_cons_succ]
    refine AnyE.all (rs := [9]) (by kernel_rfl) rfl (fun i hi => ?_)
    obtain rfl := List.mem_singleton.1 hi
    refine jP (by rfl) (by rfl) (fun H => .pointer (some ⟨H, 0, none⟩)) #[.int .i64 0, .bool false, .slice none 0 0, .slice none 0 0] tF (by go_simp) (by omega) fun T wn2 eT twn2 kC bC sC => ?_
    simp only [Act.put, List.setIfInBounds_toArray, List.set_cons_zero, List.set_cons_succ]
    have bwn2 := bwn1.trans bC
    have zwn2 : w.heap.size + 2 <= wn2.heap.size := by omega
    have tJ := kC.owns own1 (fun _ _ => by simp)
    have nTg : T ≠ g := by omega
    refine AnyE.all (rs := [10]) (by kernel_rfl) rfl (fun i hi => ?_)
    obtain rfl := List.mem_singleton.1 hi
    refine jK (by rfl) (by rfl) _ _ _ (by rfl) T 0 #[.int .i64 p, .bool u, .slice (some ⟨g, 0, none⟩) D.ls.length c, .slice none 0 0] (by rfl) (by rfl) twn2 (by simp) (by kernel_rfl) (by simp [Value.oneCell']) (by omega) fun wn3 DS hS eS kS bS sS => ?_
    simp only [Act.put]
    have bwn3 := bwn2.trans bS
    have own3 := kS.owns tJ (fun k e => by simp [Value.ownBlock] at e |-; omega)
    obtain rfl : DS = #[.int .i64 p, .bool u, .slice (some ⟨g, 0, none⟩) D.ls.length c, .slice none 0 0] := Array.ext' (by rw [eS]; rfl)
    have hBT : w.heap.size + 2 <= T := by omega
    refine AnyE.done (by kernel_rfl) ?_
    clear eR sN eT sC sA gA gR sS eS
    go_wp2_with fail
    go_meet
    exact ⟨T, g, c, rfl, hS, own3, nTg, hBT, bwn3⟩
   ·refine jP (by rfl) (by rfl) (fun H => .pointer (some ⟨H, 0, none⟩)) #[.int .i64 0, .bool false, .slice none 0 0, .slice none 0 0] tF (by go_simp) (by omega) fun T wn4 eT twn4 kC bC sC => ?_
    simp only [Act.put, List.setIfInBounds_toArray, List.set_cons_zero, List.set_cons_succ]
    have bwn4 := bwn0.trans bC
    have zwn4 : w.heap.size + 2 <= wn4.heap.size := by omega
    have own4 := kC.owns own0 (fun _ _ => by simp)
    have nRT : T ≠ R := by omega
    refine AnyE.all (rs := [7]) (by kernel_rfl) rfl (fun i hi => ?_)
    obtain rfl := List.mem_singleton.1 hi
    refine yI (by rfl) (by rfl) _ _ (w.heap.size + 2) _ tTy zT 2 2 (by rfl) Tryz.underlying22 rowT (by rfl) (by omega) (by rfl) own4 (by rfl) (HLW bwn4) h1 (by omega) (by omega) (by omega) (Nat.le_refl _) (.inl (by simp [Value.ownBlock])) fun g c wn5 own5 kA bA sA gA ltA => ?_
    simp only [Act.put, List.setIfInBounds_toArray, List.set_cons_zero, List.set_cons_succ, Nat.zero_add]
    have bwn5 := bwn4.trans bA
    have zwn5 : w.heap.size + 2 <= wn5.heap.size := by omega
    rw [Nat.zero_add, List.nil_append] at own5
    have gR : g = R \/ g = wn4.heap.size := gA.imp (fun e => (Option.some.inj e).symm) id
    have twn5 := kA T _ (by simp [Value.ownBlock]; omega) twn4
    have ltT := (Array.getElem?_eq_some_iff.1 twn4).1
    have nTg : T ≠ g := by omega
    refine AnyE.take (i := 8) (v := ?_) (by kernel_rfl) rfl (by kernel_rfl) (by kernel_rfl) (fun _ _ _ _ _ h => h) (by rfl) (fun W hW => ?_) ?_
    rotate_left
    focus (go_simp; with_reducible rfl)
    simp only [Act.put, List.setIfInBounds_toArray, List.set_cons_zero, List.set_cons_succ]
    refine AnyE.all (rs := [10]) (by kernel_rfl) rfl (fun i hi => ?_)
    obtain rfl := List.mem_singleton.1 hi
    refine jK (by rfl) (by rfl) _ _ _ (by rfl) T 0 #[.int .i64 p, .bool u, .slice (some ⟨g, 0, none⟩) D.ls.length c, .slice none 0 0] (by rfl) (by rfl) twn5 (by simp) (by kernel_rfl) (by simp [Value.oneCell']) (by omega) fun wn6 DS hS eS kS bS sS => ?_
    simp only [Act.put]
    have bwn6 := bwn5.trans bS
    have own6 := kS.owns own5 (fun k e => by simp [Value.ownBlock] at e |-; omega)
    obtain rfl : DS = #[.int .i64 p, .bool u, .slice (some ⟨g, 0, none⟩) D.ls.length c, .slice none 0 0] := Array.ext' (by rw [eS]; rfl)
    have hBT : w.heap.size + 2 <= T := by omega
    refine AnyE.done (by kernel_rfl) ?_
    clear eR sN eT sC sA gA gR sS eS
    go_wp2_with fail
    go_meet
    exact ⟨T, g, c, rfl, hS, own6, nTg, hBT, bwn6⟩
  ·refine jP (by rfl) (by rfl) (fun H => .pointer (some ⟨H, 0, none⟩)) #[.int .i64 0, .bool false, .slice none 0 0, .slice none 0 0] tF (by go_simp) (by omega) fun T wn7 eT twn7 kC bC sC => ?_
   simp only [Act.put, List.setIfInBounds_toArray, List.set_cons_zero, List.set_cons_succ]
   have bwn7 := bD.trans bC
   have zwn7 : w.heap.size + 2 <= wn7.heap.size := by omega
   refine AnyE.all (rs := [4]) (by kernel_rfl) rfl (fun i hi => ?_)
   obtain rfl := List.mem_singleton.1 hi
   refine jP (by rfl) (by rfl) (fun H => .slice (some ⟨H, 0, none⟩) 0 0) #[] tTy (by go_simp) (by omega) fun R wn8 eR hR kN bN sN => ?_
   simp only [Act.put, List.setIfInBounds_toArray, List.set_cons_zero, List.set_cons_succ]
   have bwn8 := bwn7.trans bN
   have zwn8 : w.heap.size + 2 <= wn8.heap.size := by omega
   have own8 : wn8.ownsRow (w.heap.size + 2) tTy 2 (.slice (some ⟨R, 0, none⟩) 0 0) 0 [] := sW hR (by omega)
   have twn8 := kN T _ (by simp) twn7
   have nRT : T ≠ R := by omega
   refine AnyE.all (rs := [7]) (by kernel_rfl) rfl (fun i hi => ?_)
   obtain rfl := List.mem_singleton.1 hi
   refine yI (by rfl) (by rfl) _ _ (w.heap.size + 2) _ tTy zT 2 2 (by rfl) Tryz.underlying22 rowT (by rfl) (by omega) (by rfl) own8 (by rfl) (HLW bwn8) h1 (by omega) (by omega) (by omega) (Nat.le_refl _) (.inl (by simp [Value.ownBlock])) fun g c wn9 own9 kA bA sA gA ltA => ?_
   simp only [Act.put, List.setIfInBounds_toArray, List.set_cons_zero, List.set_cons_succ, Nat.zero_add]
   have bwn9 := bwn8.trans bA
   have zwn9 : w.heap.size + 2 <= wn9.heap.size := by omega
   rw [Nat.zero_add, List.nil_append] at own9
   have gR : g = R \/ g = wn8.heap.size := gA.imp (fun e => (Option.some.inj e).symm) id
   have twn9 := kA T _ (by simp [Value.ownBlock]; omega) twn8
   have ltT := (Array.getElem?_eq_some_iff.1 twn8).1
   have nTg : T ≠ g := by omega
   refine AnyE.take (i := 8) (v := ?_) (by kernel_rfl) rfl (by kernel_rfl) (by kernel_rfl) (fun _ _ _ _ _ h => h) (by rfl) (fun W hW => ?_) ?_
   rotate_left
   focus (go_simp; with_reducible rfl)
   simp only [Act.put, List.setIfInBounds_toArray, List.set_cons_zero, List.set_cons_succ]
   refine AnyE.all (rs := [10]) (by kernel_rfl) rfl (fun i hi => ?_)
   obtain rfl := List.mem_singleton.1 hi
   refine jK (by rfl) (by rfl) _ _ _ (by rfl) T 0 #[.int .i64 p, .bool u, .slice (some ⟨g, 0, none⟩) D.ls.length c, .slice none 0 0] (by rfl) (by rfl) twn9 (by simp) (by kernel_rfl) (by simp [Value.oneCell']) (by omega) fun wn10 DS hS eS kS bS sS => ?_
   simp only [Act.put]
   have bwn10 := bwn9.trans bS
   have own10 := kS.owns own9 (fun k e => by simp [Value.ownBlock] at e |-; omega)
   obtain rfl : DS = #[.int .i64 p, .bool u, .slice (some ⟨g, 0, none⟩) D.ls.length c, .slice none 0 0] := Array.ext' (by rw [eS]; rfl)
   have hBT : w.heap.size + 2 <= T := by omega
   refine AnyE.done (by kernel_rfl) ?_
   clear eR sN eT sC sA gA gR sS eS
   go_wp2_with fail
   go_meet
   exact ⟨T, g, c, rfl, hS, own10, nTg, hBT, bwn10⟩
 case rest =>
  obtain ⟨T, g, c, rfl, hT, own, nTg, hBT, bT⟩ := hcut
  have b0 : Below w.heap.size w ((w.alloc (.cells #[.int .i64 p, .bool u, lv, bv] tF)).alloc (.cells #[.int .i64 0, .bool false, .slice none 0 0, .slice none 0 0] tF)) := ((Below.refl _ _).alloc (Nat.le_refl _) _).alloc (by simp) _
  have sz : ((w.alloc (.cells #[.int .i64 p, .bool u, lv, bv] tF)).alloc (.cells #[.int .i64 0, .bool false, .slice none 0 0, .slice none 0 0] tF)).heap.size = w.heap.size + 2 := by simp
  have g0 : ((w.alloc (.cells #[.int .i64 p, .bool u, lv, bv] tF)).alloc (.cells #[.int .i64 0, .bool false, .slice none 0 0, .slice none 0 0] tF)).heap[w.heap.size]? = some (.cells #[.int .i64 p, .bool u, lv, bv] tF (0, 0)) := oH (cu rfl)
  have g1 : ((w.alloc (.cells #[.int .i64 p, .bool u, lv, bv] tF)).alloc (.cells #[.int .i64 0, .bool false, .slice none 0 0, .slice none 0 0] tF)).heap[w.heap.size + 1]? = some (.cells #[.int .i64 0, .bool false, .slice none 0 0, .slice none 0 0] tF (0, 0)) := cu (by simp)
  generalize ((w.alloc (.cells #[.int .i64 p, .bool u, lv, bv] tF)).alloc (.cells #[.int .i64 0, .bool false, .slice none 0 0, .slice none 0 0] tF)) = W0 at *
  go_wp2
  go_loopw [4] (fun m wr => ∃ (i : Nat) (bv' : Value) (Bs : List bH), m = .int .i64 i /\ i <= D.bs.length /\ alx (w.heap.size + 2) T g c D p u W0 wr i bv' Bs) (fun m _ => D.bs.length - (intOf m).toNat)
  case atStart => exact ⟨0, .slice none 0 0, [], rfl, Nat.zero_le _, rfl, hT, own, World.ownsRow_nil _ _ _ _, fun _ h => by simp at h, by simpa [fF, Value.ownBlock] using nTg, bT⟩
  case round =>
   obtain ⟨i, bv', Bs, rfl, hi, hI⟩ := hrel
   have gR : ∀ W, Below (w.heap.size + 2) wr W -> ∀ k, W.cell? ⟨w.heap.size, k, none⟩ = #[.int .i64 p, .bool u, lv, bv][k]? := fun W hW k => (cell_of_row W w.heap.size k _ tF (0, 0) (((hI.bel.trans hW).block _ (by omega)).trans g0))
   have c3 : wr.cell? ⟨w.heap.size, 3, none⟩ = some bv := gR wr (Below.refl _ _) 3
   obtain rfl := hbv'.out
   rcases Nat.lt_or_ge i D.bs.length with hlt | hge
   ·have hlt' : (i : Int) < (D.bs.length : Int) := by omega
    obtain ⟨hblk, hmem⟩ := uo h hlt
    obtain ⟨bb, off, cc, eq, hcell⟩ := HBL.at_ i _ hmem
    rw [List.length_map] at eq
    cases eq
    obtain ⟨x0, x1, x2, x3, b4, x5, x6, x7, x8, epre⟩ := amd hblk.BO
    obtain ⟨y0, y1, y2, epost⟩ := alT hblk.uX
    obtain ⟨As, cs, es⟩ := hblk.sts.sl
    obtain ⟨Aa, ca, ea⟩ := hblk.opl.sl
    have hst := hblk.sts
    have hop := hblk.opl
    have h1s := hS1 _ hblk
    have h1o := hO1 _ hblk
    have hls := hSl _ (twos.kW hlt)
    have hlo := hOl _ (twos.kW hlt)
    unfold bH.cells at hcell
    rw [epre, epost, es, ea] at hcell
    rw [es] at hst
    rw [ea] at hop
    have hbb : bb < w.heap.size := World.block_lt_of_cell? w ⟨bb, off + i * 14 + 0, none⟩ (hcell 0 _ rfl)
    have EP := Lib.hid epre
    have EQ := Lib.hid epost
    clear epre epost es ea
    generalize hsv : Value.slice As (D.blk i).st.length cs = sv at *
    generalize hav : Value.slice Aa (D.blk i).ops.length ca = av at *
    have hav1 : av.oneCell' = true := by rw [<- hav]; rfl
    have hrs : w.heap.size <= wr.heap.size := by have := hI.bel.size; omega
    have HSV := Lib.hid hsv
    have HAV := Lib.hid hav
    clear hsv hav
    go_upto_region 5 with fail
    go_cut [5] from 15 to 49 (fun s5 wx => am0 wr (D.blk i).st [.int .u8 x0, .int .u8 x1, .int .i64 x2, .int .i64 x3, .bool b4, .int .u8 x5, .int .i64 x6, .int .i64 x7, .int .i64 x8, av, .int .i64 y0, .bool y1, .int .u8 y2] s5 wx)
    case first =>
     have gW : ∀ W, Below wr.heap.size wr.drew W -> W.cell? ⟨w.heap.size, 3, none⟩ = some (.slice (some ⟨bb, off, none⟩) D.bs.length cb) := fun W hW => (hW.cell (p := ⟨w.heap.size, 3, none⟩) (World.block_lt_of_cell? wr _ c3)).trans c3
     have gC : ∀ W, Below wr.heap.size wr.drew W -> ∀ f u, [sv, .int .u8 x0, .int .u8 x1, .int .i64 x2, .int .i64 x3, .bool b4, .int .u8 x5, .int .i64 x6, .int .i64 x7, .int .i64 x8, av, .int .i64 y0, .bool y1, .int .u8 y2][f]? = some u -> W.cell? ⟨bb, off + i * 14 + f, none⟩ = some u := fun W hW f u hu => by
      have e1 := ((b0.trans (hI.bel.mono (by omega))).trans (Below.mono ((Below.drew (Below.refl wr.heap.size wr)).trans hW) hrs)).cell (p := ⟨bb, off + i * 14 + f, none⟩) hbb
      rw [e1]
      exact hcell f u hu
     refine qN wr.heap.size (by kernel_rfl) ?_
     refine AnyE.take (i := 1) (v := ?_) (by kernel_rfl) rfl (by kernel_rfl) (by kernel_rfl) (fun _ _ _ _ _ h => h) (by rfl) (fun W hW => ?_) ?_
     rotate_left
     focus (have d3 := gW W hW; have d0 := gC W hW 0 _ rfl; simp only [Nat.add_zero] at d0; go_simp; with_reducible rfl)
     simp only [Act.put, List.setIfInBounds_toArray, List.set_cons_zero, List.set_cons_succ]
     refine AnyE.take (i := 2) (v := ?_) (by kernel_rfl) rfl (by kernel_rfl) (by kernel_rfl) (fun _ _ _ _ _ h => h) (by rfl) (fun W hW => ?_) ?_
     rotate_left
     focus (have d3 := gW W hW; have d0 := gC W hW 0 _ rfl; simp only [Nat.add_zero] at d0; go_simp; with_reducible rfl)
     simp only [Act.put, List.setIfInBounds_toArray, List.set_cons_zero, List.set_cons_succ]
     refine AnyE.take (i := 3) (v := ?_) (by kernel_rfl) rfl (by kernel_rfl) (by kernel_rfl) (fun _ _ _ _ _ h => h) (by rfl) (fun W hW => ?_) ?_
     rotate_left
     focus (have d3 := gW W hW; have d0 := gC W hW 0 _ rfl; simp only [Nat.add_zero] at d0; go_simp; with_reducible rfl)
     simp only [Act.put, List.setIfInBounds_toArray, List.set_cons_zero, List.set_cons_succ]
     refine AnyE.take (i := 4) (v := ?_) (by kernel_rfl) rfl (by kernel_rfl) (by kernel_rfl) (fun _ _ _ _ _ h => h) (by rfl) (fun W hW => ?_) ?_
     rotate_left
     focus (have d3 := gW W hW; have d0 := gC W hW 0 _ rfl; simp only [Nat.add_zero] at d0; go_simp; with_reducible rfl)
     simp only [Act.put, List.setIfInBounds_toArray, List.set_cons_zero, List.set_cons_succ]
     refine AnyE.take (i := 5) (v := ?_) (by kernel_rfl) rfl (by kernel_rfl) (by kernel_rfl) (fun _ _ _ _ _ h => h) (by rfl) (fun W hW => ?_) ?_
     rotate_left
     focus (have d3 := gW W hW; have d0 := gC W hW 0 _ rfl; simp only [Nat.add_zero] at d0; go_simp; with_reducible rfl)
     simp only [Act.put, List.setIfInBounds_toArray, List.set_cons_zero, List.set_cons_succ]
     refine AnyE.take (i := 6) (v := ?_) (by kernel_rfl) rfl (by kernel_rfl) (by kernel_rfl) (fun _ _ _ _ _ h => h) (by rfl) (fun W hW => ?_) ?_
     rotate_left
     focus (have d3 := gW W hW; have d0 := gC W hW 0 _ rfl; simp only [Nat.add_zero] at d0; go_simp; with_reducible rfl)
     simp only [Act.put, List.setIfInBounds_toArray, List.set_cons_zero, List.set_cons_succ]
     refine AnyE.take (i := 8) (v := ?_) (by kernel_rfl) rfl (by kernel_rfl) (by kernel_rfl) (fun _ _ _ _ _ h => h) (by rfl) (fun W hW => ?_) ?_
     rotate_left
     focus (have d3 := gW W hW; have d0 := gC W hW 0 _ rfl; simp only [Nat.add_zero] at d0; go_simp; with_reducible rfl)
     simp only [Act.put, List.setIfInBounds_toArray, List.set_cons_zero, List.set_cons_succ]
     refine AnyE.take (i := 9) (v := ?_) (by kernel_rfl) rfl (by kernel_rfl) (by kernel_rfl) (fun _ _ _ _ _ h => h) (by rfl) (fun W hW => ?_) ?_
     rotate_left
     focus (have d3 := gW W hW; have d0 := gC W hW 0 _ rfl; simp only [Nat.add_zero] at d0; go_simp; with_reducible rfl)
     simp only [Act.put, List.setIfInBounds_toArray, List.set_cons_zero, List.set_cons_succ]
     refine AnyE.take (i := 10) (v := ?_) (by kernel_rfl) rfl (by kernel_rfl) (by kernel_rfl) (fun _ _ _ _ _ h => h) (by rfl) (fun W hW => ?_) ?_
     rotate_left
     focus (have d3 := gW W hW; have d0 := gC W hW 0 _ rfl; simp only [Nat.add_zero] at d0; go_simp; with_reducible rfl)
     simp only [Act.put, List.setIfInBounds_toArray, List.set_cons_zero, List.set_cons_succ]
     refine AnyE.take (i := 11) (v := ?_) (by kernel_rfl) rfl (by kernel_rfl) (by kernel_rfl) (fun _ _ _ _ _ h => h) (by rfl) (fun W hW => ?_) ?_
     rotate_left
     focus (have d3 := gW W hW; have d0 := gC W hW 0 _ rfl; simp only [Nat.add_zero] at d0; go_simp; with_reducible rfl)
     simp only [Act.put, List.setIfInBounds_toArray, List.set_cons_zero, List.set_cons_succ]
     refine AnyE.take (i := 12) (v := ?_) (by kernel_rfl) rfl (by kernel_rfl) (by kernel_rfl) (fun _ _ _ _ _ h => h) (by rfl) (fun W hW => ?_) ?_
     rotate_left
     focus (have d3 := gW W hW; have d0 := gC W hW 0 _ rfl; simp only [Nat.add_zero] at d0; go_simp; with_reducible rfl)
     simp only [Act.put, List.setIfInBounds_toArray, List.set_cons_zero, List.set_cons_succ]
     refine AnyE.take (i := 13) (v := .agg #[.int .u8 x0, .int .u8 x1, .int .i64 x2, .int .i64 x3, .bool b4, .int .u8 x5, .int .i64 x6, .int .i64 x7, .int .i64 x8, av, .int .i64 y0, .bool y1, .int .u8 y2]) (by kernel_rfl) rfl (by kernel_rfl) (by kernel_rfl) (fun _ _ _ _ _ h => h) (by rfl) (fun W hW => ?_) ?_
     ·exact lN _ _ rfl bb (off + i * 14 + 1) rfl [.int .u8 x0, .int .u8 x1, .int .i64 x2, .int .i64 x3, .bool b4, .int .u8 x5, .int .i64 x6, .int .i64 x7, .int .i64 x8, av, .int .i64 y0, .bool y1, .int .u8 y2] _ (fun j v hj => by have := gC W hW (j + 1) v (by simpa using hj); rw [show off + i * 14 + 1 + j = off + i * 14 + (j + 1) by omega]; exact this) Tryz.underlying58 rfl (by kernel_rfl)
     simp only [Act.put, List.setIfInBounds_toArray, List.set_cons_zero, List.set_cons_succ]
     have bD : Below wr.heap.size wr wr.drew := (Below.refl _ _).drew
     have sD : wr.drew.heap.size = wr.heap.size := rfl
     have HSW : ∀ {W : World}, Below wr.heap.size wr W -> bV W sv 26 (D.blk i).st := fun hW => TT hst ((b0.trans (hI.bel.mono (by omega))).trans (hW.mono hrs))
     refine AnyE.all (rs := [0, 15]) (by kernel_rfl) rfl (fun i hi => ?_)
     simp only [List.mem_cons, List.not_mem_nil, or_false] at hi
     rcases hi with rfl | rfl
     ·refine jP (by rfl) (by rfl) (fun H => .slice (some ⟨H, 0, none⟩) 0 0) #[] tSt (by go_simp) (by omega) fun R wn0 eR hR kN bN sN => ?_
      simp only [Act.put, List.setIfInBounds_toArray, List.set_cons_zero, List.set_cons_succ]
      have bwn0 := bD.trans bN
      have zwn0 : wr.heap.size <= wn0.heap.size := by omega
      have own0 : wn0.ownsRow (wr.heap.size) tSt 26 (.slice (some ⟨R, 0, none⟩) 0 0) 0 [] := sW hR (by omega)
      refine AnyE.all (rs := [7, 15]) (by kernel_rfl) rfl (fun i hi => ?_)
      simp only [List.mem_cons, List.not_mem_nil, or_false] at hi
      rcases hi with rfl | rfl
      ·refine yI (by rfl) (by rfl) _ _ (wr.heap.size) _ tSt zS 26 152 (by rfl) Tryz.underlying51 ajX (by rfl) (by omega) (by rfl) own0 (by rfl) (HSW bwn0) h1s (by omega) (by omega) (by omega) (Nat.le_refl _) (.inl (by simp [Value.ownBlock])) fun g c wn1 own1 kA bA sA gA ltA => ?_
       simp only [Act.put, List.setIfInBounds_toArray, List.set_cons_zero, List.set_cons_succ, Nat.zero_add]
       have bwn1 := bwn0.trans bA
       have zwn1 : wr.heap.size <= wn1.heap.size := by omega
       rw [Nat.zero_add, List.nil_append] at own1
       have gR : g = R \/ g = wn0.heap.size := gA.imp (fun e => (Option.some.inj e).symm) id
       refine AnyE.take (i := 14) (v := ?_) (by kernel_rfl) rfl (by kernel_rfl) (by kernel_rfl) (fun _ _ _ _ _ h => h) (by rfl) (fun W hW => ?_) ?_
       rotate_left
       focus (go_simp; with_reducible rfl)
       simp only [Act.put, List.setIfInBounds_toArray, List.set_cons_zero, List.set_cons_succ]
       refine AnyE.all (rs := [15]) (by kernel_rfl) rfl (fun i hi => ?_)
       obtain rfl := List.mem_singleton.1 hi
       refine jP (by rfl) (by rfl) (fun H => .pointer (some ⟨H, 0, none⟩)) #[.slice none 0 0, .int .u8 0, .int .u8 0, .int .i64 0, .int .i64 0, .bool false, .int .u8 0, .int .i64 0, .int .i64 0, .int .i64 0, .slice none 0 0, .int .i64 0, .bool false, .int .u8 0] tBl (by go_simp) (by omega) fun T wn2 eT twn2 kC bC sC => ?_
       simp only [Act.put, List.setIfInBounds_toArray, List.set_cons_zero, List.set_cons_succ]
       have bwn2 := bwn1.trans bC
       have zwn2 : wr.heap.size <= wn2.heap.size := by omega
       have tJ := kC.owns own1 (fun _ _ => by simp)
       have nTg : T ≠ g := by omega
       refine AnyE.all (rs := [16]) (by kernel_rfl) rfl (fun i hi => ?_)
       obtain rfl := List.mem_singleton.1 hi
       refine jK (by rfl) (by rfl) _ _ _ (by rfl) T 0 #[.slice (some ⟨g, 0, none⟩) (D.blk i).st.length c, .int .u8 x0, .int .u8 x1, .int .i64 x2, .int .i64 x3, .bool b4, .int .u8 x5, .int .i64 x6, .int .i64 x7, .int .i64 x8, av, .int .i64 y0, .bool y1, .int .u8 y2] (by rfl) (by rfl) twn2 (by simp) (by kernel_rfl) (by have := hav1; unfold Value.oneCell' at this; simp [Value.oneCell', this]) (by omega) fun wn3 DS hS eS kS bS sS => ?_
       simp only [Act.put]
       have bwn3 := bwn2.trans bS
       have own3 := kS.owns tJ (fun k e => by simp [Value.ownBlock] at e |-; omega)
       obtain rfl : DS = #[.slice (some ⟨g, 0, none⟩) (D.blk i).st.length c, .int .u8 x0, .int .u8 x1, .int .i64 x2, .int .i64 x3, .bool b4, .int .u8 x5, .int .i64 x6, .int .i64 x7, .int .i64 x8, av, .int .i64 y0, .bool y1, .int .u8 y2] := Array.ext' (by rw [eS]; rfl)
       have hBT : wr.heap.size <= T := by omega
       refine AnyE.done (by kernel_rfl) ?_
       clear eR sN eT sC sA gA gR sS eS
       go_wp2_with fail
       go_meet
       exact ⟨T, g, c, rfl, hS, own3, nTg, hBT, bwn3⟩
      ·refine jP (by rfl) (by rfl) (fun H => .pointer (some ⟨H, 0, none⟩)) #[.slice none 0 0, .int .u8 0, .int .u8 0, .int .i64 0, .int .i64 0, .bool false, .int .u8 0, .int .i64 0, .int .i64 0, .int .i64 0, .slice none 0 0, .int .i64 0, .bool false, .int .u8 0] tBl (by go_simp) (by omega) fun T wn4 eT twn4 kC bC sC => ?_
       simp only [Act.put, List.setIfInBounds_toArray, List.set_cons_zero, List.set_cons_succ]
       have bwn4 := bwn0.trans bC
       have zwn4 : wr.heap.size <= wn4.heap.size := by omega
       have own4 := kC.owns own0 (fun _ _ => by simp)
       have nRT : T ≠ R := by omega
       refine AnyE.all (rs := [7]) (by kernel_rfl) rfl (fun i hi => ?_)
       obtain rfl := List.mem_singleton.1 hi
       refine yI (by rfl) (by rfl) _ _ (wr.heap.size) _ tSt zS 26 152 (by rfl) Tryz.underlying51 ajX (by rfl) (by omega) (by rfl) own4 (by rfl) (HSW bwn4) h1s (by omega) (by omega) (by omega) (Nat.le_refl _) (.inl (by simp [Value.ownBlock])) fun g c wn5 own5 kA bA sA gA ltA => ?_
       simp only [Act.put, List.setIfInBounds_toArray, List.set_cons_zero, List.set_cons_succ, Nat.zero_add]
       have bwn5 := bwn4.trans bA
       have zwn5 : wr.heap.size <= wn5.heap.size := by omega
       rw [Nat.zero_add, List.nil_append] at own5
       have gR : g = R \/ g = wn4.heap.size := gA.imp (fun e => (Option.some.inj e).symm) id
       have twn5 := kA T _ (by simp [Value.ownBlock]; omega) twn4
       have ltT := (Array.getElem?_eq_some_iff.1 twn4).1
       have nTg : T ≠ g := by omega
       refine AnyE.take (i := 14) (v := ?_) (by kernel_rfl) rfl (by kernel_rfl) (by kernel_rfl) (fun _ _ _ _ _ h => h) (by rfl) (fun W hW => ?_) ?_
       rotate_left
       focus (go_simp; with_reducible rfl)
       simp only [Act.put, List.setIfInBounds_toArray, List.set_cons_zero, List.set_cons_succ]
       refine AnyE.all (rs := [16]) (by kernel_rfl) rfl (fun i hi => ?_)
       obtain rfl := List.mem_singleton.1 hi
       refine jK (by rfl) (by rfl) _ _ _ (by rfl) T 0 #[.slice (some ⟨g, 0, none⟩) (D.blk i).st.length c, .int .u8 x0, .int .u8 x1, .int .i64 x2, .int .i64 x3, .bool b4, .int .u8 x5, .int .i64 x6, .int .i64 x7, .int .i64 x8, av, .int .i64 y0, .bool y1, .int .u8 y2] (by rfl) (by rfl) twn5 (by simp) (by kernel_rfl) (by have := hav1; unfold Value.oneCell' at this; simp [Value.oneCell', this]) (by omega) fun wn6 DS hS eS kS bS sS => ?_
       simp only [Act.put]
       have bwn6 := bwn5.trans bS
       have own6 := kS.owns own5 (fun k e => by simp [Value.ownBlock] at e |-; omega)
       obtain rfl : DS = #[.slice (some ⟨g, 0, none⟩) (D.blk i).st.length c, .int .u8 x0, .int .u8 x1, .int .i64 x2, .int .i64 x3, .bool b4, .int .u8 x5, .int .i64 x6, .int .i64 x7, .int .i64 x8, av, .int .i64 y0, .bool y1, .int .u8 y2] := Array.ext' (by rw [eS]; rfl)
       have hBT : wr.heap.size <= T := by omega
       refine AnyE.done (by kernel_rfl) ?_
       clear eR sN eT sC sA gA gR sS eS
       go_wp2_with fail
       go_meet
       exact ⟨T, g, c, rfl, hS, own6, nTg, hBT, bwn6⟩
     ·refine jP (by rfl) (by rfl) (fun H => .pointer (some ⟨H, 0, none⟩)) #[.slice none 0 0, .int .u8 0, .int .u8 0, .int .i64 0, .int .i64 0, .bool false, .int .u8 0, .int .i64 0, .int .i64 0, .int .i64 0, .slice none 0 0, .int .i64 0, .bool false, .int .u8 0] tBl (by go_simp) (by omega) fun T wn7 eT twn7 kC bC sC => ?_
      simp only [Act.put, List.setIfInBounds_toArray, List.set_cons_zero, List.set_cons_succ]
      have bwn7 := bD.trans bC
      have zwn7 : wr.heap.size <= wn7.heap.size := by omega
      refine AnyE.all (rs := [0]) (by kernel_rfl) rfl (fun i hi => ?_)
      obtain rfl := List.mem_singleton.1 hi
      refine jP (by rfl) (by rfl) (fun H => .slice (some ⟨H, 0, none⟩) 0 0) #[] tSt (by go_simp) (by omega) fun R wn8 eR hR kN bN sN => ?_
      simp only [Act.put, List.setIfInBounds_toArray, List.set_cons_zero, List.set_cons_succ]
      have bwn8 := bwn7.trans bN
      have zwn8 : wr.heap.size <= wn8.heap.size := by omega
      have own8 : wn8.ownsRow (wr.heap.size) tSt 26 (.slice (some ⟨R, 0, none⟩) 0 0) 0 [] := sW hR (by omega)
      have twn8 := kN T _ (by simp) twn7
      have nRT : T ≠ R := by omega
      refine AnyE.all (rs := [7]) (by kernel_rfl) rfl (fun i hi => ?_)
      obtain rfl := List.mem_singleton.1 hi
      refine yI (by rfl) (by rfl) _ _ (wr.heap.size) _ tSt zS 26 152 (by rfl) Tryz.underlying51 ajX (by rfl) (by omega) (by rfl) own8 (by rfl) (HSW bwn8) h1s (by omega) (by omega) (by omega) (Nat.le_refl _) (.inl (by simp [Value.ownBlock])) fun g c wn9 own9 kA bA sA gA ltA => ?_
      simp only [Act.put, List.setIfInBounds_toArray, List.set_cons_zero, List.set_cons_succ, Nat.zero_add]
      have bwn9 := bwn8.trans bA
      have zwn9 : wr.heap.size <= wn9.heap.size := by omega
      rw [Nat.zero_add, List.nil_append] at own9
      have gR : g = R \/ g = wn8.heap.size := gA.imp (fun e => (Option.some.inj e).symm) id
      have twn9 := kA T _ (by simp [Value.ownBlock]; omega) twn8
      have ltT := (Array.getElem?_eq_some_iff.1 twn8).1
      have nTg : T ≠ g := by omega
      refine AnyE.take (i := 14) (v := ?_) (by kernel_rfl) rfl (by kernel_rfl) (by kernel_rfl) (fun _ _ _ _ _ h => h) (by rfl) (fun W hW => ?_) ?_
      rotate_left
      focus (go_simp; with_reducible rfl)
      simp only [Act.put, List.setIfInBounds_toArray, List.set_cons_zero, List.set_cons_succ]
      refine AnyE.all (rs := [16]) (by kernel_rfl) rfl (fun i hi => ?_)
      obtain rfl := List.mem_singleton.1 hi
      refine jK (by rfl) (by rfl) _ _ _ (by rfl) T 0 #[.slice (some ⟨g, 0, none⟩) (D.blk i).st.length c, .int .u8 x0, .int .u8 x1, .int .i64 x2, .int .i64 x3, .bool b4, .int .u8 x5, .int .i64 x6, .int .i64 x7, .int .i64 x8, av, .int .i64 y0, .bool y1, .int .u8 y2] (by rfl) (by rfl) twn9 (by simp) (by kernel_rfl) (by have := hav1; unfold Value.oneCell' at this; simp [Value.oneCell', this]) (by omega) fun wn10 DS hS eS kS bS sS => ?_
      simp only [Act.put]
      have bwn10 := bwn9.trans bS
      have own10 := kS.owns own9 (fun k e => by simp [Value.ownBlock] at e |-; omega)
      obtain rfl : DS = #[.slice (some ⟨g, 0, none⟩) (D.blk i).st.length c, .int .u8 x0, .int .u8 x1, .int .i64 x2, .int .i64 x3, .bool b4, .int .u8 x5, .int .i64 x6, .int .i64 x7, .int .i64 x8, av, .int .i64 y0, .bool y1, .int .u8 y2] := Array.ext' (by rw [eS]; rfl)
      have hBT : wr.heap.size <= T := by omega
      refine AnyE.done (by kernel_rfl) ?_
      clear eR sN eT sC sA gA gR sS eS
      go_wp2_with fail
      go_meet
      exact ⟨T, g, c, rfl, hS, own10, nTg, hBT, bwn10⟩
    case rest =>
     obtain ⟨T5, g5, c5, rfl, hT5, o5, n5, hb5, bel5⟩ := hcut
     have e10 : wc.cell? ⟨T5, 10, none⟩ = some av := by rw [cell_of_row wc T5 10 _ tBl (0, 0) hT5]; rfl
     have f10 := jv hT5 10
     have e10' : ∀ o, (wc.alloc o).cell? ⟨T5, 10, none⟩ = some av := fun o => Ot e10
     have lt5 := (Array.getElem?_eq_some_iff.1 hT5).1
     have hbw : Below w.heap.size w wc := (b0.trans (hI.bel.mono (by omega))).trans (bel5.mono hrs)
     have ltT := (Array.getElem?_eq_some_iff.1 hI.hT).1
     have hTc := (bel5.block T ltT).trans hI.hT
     go_upto_region 7 with (at_builtin; refine C9 rfl _ _ _ (by rfl) wc.heap.size tOp zO 5 32 Tryz.underlying56 Oi (by rfl) (by omega) (.slice (some ⟨wc.heap.size, 0, none⟩) 0 0) 0 [] (by rfl) (sW (cu rfl) (Nat.le_refl _)) av (D.blk i).ops (by rfl) (TT hop (hbw.alloc hbw.size _)) h1o (by omega) (by omega) (by simp) _ rfl (.inl (by simp [Value.ownBlock])) ?_; intro g6 c6 w6 o6 gr6 at6 lt6; have hT6 := D9 gr6 (oH hT5) (by simp [Value.ownBlock]; omega); have e6 : w6.cell? ⟨T5, 10, none⟩ = some av := (by rw [cell_of_row w6 T5 10 _ tBl (0, 0) hT6]; rfl); have f6 := jv hT6 10)
     rw [Nat.zero_add, List.nil_append] at o6
     have at6' : g6 = wc.heap.size \/ g6 = wc.heap.size + 1 := by
      rcases at6 with e | e
      ·exact .inl (Option.some.inj e).symm
      ·exact .inr (by simpa using e)
     letI : Base := (⟨w, [], []⟩ : Env).b
     have k6 : Kept (some wc.heap.size) wc w6 := fun k x hk hx => D9 gr6 (oH hx) (by simpa [Value.ownBlock] using hk)
     have s6 : wc.heap.size <= w6.heap.size := by have := gr6.size; simp at this; omega
     have hT7 : (w6.setCell ⟨T5, 10, none⟩ (.slice (some ⟨g6, 0, none⟩) (D.blk i).ops.length c6)).heap[T5]? = some (.cells #[.slice (some ⟨g5, 0, none⟩) (D.blk i).st.length c5, .int .u8 x0, .int .u8 x1, .int .i64 x2, .int .i64 x3, .bool b4, .int .u8 x5, .int .i64 x6, .int .i64 x7, .int .i64 x8, .slice (some ⟨g6, 0, none⟩) (D.blk i).ops.length c6, .int .i64 y0, .bool y1, .int .u8 y2] tBl (0, 0)) := setCell_at hT6
     have k7 : ∀ k x, k ≠ T5 -> w6.heap[k]? = some x -> (w6.setCell ⟨T5, 10, none⟩ (.slice (some ⟨g6, 0, none⟩) (D.blk i).ops.length c6)).heap[k]? = some x := fun k x hk hx => (jT hk).trans hx
     have s7 : (w6.setCell ⟨T5, 10, none⟩ (.slice (some ⟨g6, 0, none⟩) (D.blk i).ops.length c6)).heap.size = w6.heap.size := by simp [World.setCell]
     have b7 : Below wr.heap.size wr (w6.setCell ⟨T5, 10, none⟩ (.slice (some ⟨g6, 0, none⟩) (D.blk i).ops.length c6)) := ((bel5.alloc bel5.size _).grown gr6 (by have := bel5.size; simp; omega) (fun k e => by simp [Value.ownBlock] at e; have := bel5.size; omega)).setCell hb5 _
     generalize w6.setCell ⟨T5, 10, none⟩ (.slice (some ⟨g6, 0, none⟩) (D.blk i).ops.length c6) = w7 at *
     have o7a : w7.ownsRow (w.heap.size + 2) tOp 5 (.slice (some ⟨g6, 0, none⟩) (D.blk i).ops.length c6) (D.blk i).ops.length (D.blk i).ops.flatten := sU (jk o6 fun k hk => by
      obtain rfl : g6 = k := by simpa [fF, Value.ownBlock, eq_comm] using hk
      have hg := Array.getElem?_eq_getElem lt6
      exact (k7 _ _ (by omega) hg).trans hg.symm) (by have := bel5.size; omega)
     have lg5 := jZ o5 g5 (by simp [fF, Value.ownBlock])
     have o7s : w7.ownsRow (w.heap.size + 2) tSt 26 (.slice (some ⟨g5, 0, none⟩) (D.blk i).st.length c5) (D.blk i).st.length (D.blk i).st.flatten := sU (jk o5 fun k hk => by
      obtain rfl : g5 = k := by simpa [fF, Value.ownBlock, eq_comm] using hk
      have hg := Array.getElem?_eq_getElem lg5.2
      exact (k7 _ _ (Ne.symm n5) (k6 _ _ (by simp; omega) hg)).trans hg.symm) (by omega)
     have d0 : w7.cell? ⟨T5, 0, none⟩ = some (.slice (some ⟨g5, 0, none⟩) (D.blk i).st.length c5) := by rw [cell_of_row w7 T5 0 _ tBl (0, 0) hT7]; rfl
     have d1 : w7.cell? ⟨T5, 1, none⟩ = some (.int .u8 x0) := by rw [cell_of_row w7 T5 1 _ tBl (0, 0) hT7]; rfl
     have d2 : w7.cell? ⟨T5, 2, none⟩ = some (.int .u8 x1) := by rw [cell_of_row w7 T5 2 _ tBl (0, 0) hT7]; rfl
     have d3 : w7.cell? ⟨T5, 3, none⟩ = some (.int .i64 x2) := by rw [cell_of_row w7 T5 3 _ tBl (0, 0) hT7]; rfl
     have d4 : w7.cell? ⟨T5, 4, none⟩ = some (.int .i64 x3) := by rw [cell_of_row w7 T5 4 _ tBl (0, 0) hT7]; rfl
     have d5 : w7.cell? ⟨T5, 5, none⟩ = some (.bool b4) := by rw [cell_of_row w7 T5 5 _ tBl (0, 0) hT7]; rfl
     have d6 : w7.cell? ⟨T5, 6, none⟩ = some (.int .u8 x5) := by rw [cell_of_row w7 T5 6 _ tBl (0, 0) hT7]; rfl
     have d7 : w7.cell? ⟨T5, 7, none⟩ = some (.int .i64 x6) := by rw [cell_of_row w7 T5 7 _ tBl (0, 0) hT7]; rfl
     have d8 : w7.cell? ⟨T5, 8, none⟩ = some (.int .i64 x7) := by rw [cell_of_row w7 T5 8 _ tBl (0, 0) hT7]; rfl
     have d9 : w7.cell? ⟨T5, 9, none⟩ = some (.int .i64 x8) := by rw [cell_of_row w7 T5 9 _ tBl (0, 0) hT7]; rfl
     have d10 : w7.cell? ⟨T5, 10, none⟩ = some (.slice (some ⟨g6, 0, none⟩) (D.blk i).ops.length c6) := by rw [cell_of_row w7 T5 10 _ tBl (0, 0) hT7]; rfl
     have d11 : w7.cell? ⟨T5, 11, none⟩ = some (.int .i64 y0) := by rw [cell_of_row w7 T5 11 _ tBl (0, 0) hT7]; rfl
     have d12 : w7.cell? ⟨T5, 12, none⟩ = some (.bool y1) := by rw [cell_of_row w7 T5 12 _ tBl (0, 0) hT7]; rfl
     have d13 : w7.cell? ⟨T5, 13, none⟩ = some (.int .u8 y2) := by rw [cell_of_row w7 T5 13 _ tBl (0, 0) hT7]; rfl
     have hT3 : w7.heap[T]? = some (.cells #[.int .i64 p, .bool u, .slice (some ⟨g, 0, none⟩) D.ls.length c, bv'] tF (0, 0)) := (b7.block T ltT).trans hI.hT
     have e3 : w7.cell? ⟨T, 3, none⟩ = some bv' := by rw [cell_of_row w7 T 3 _ tF (0, 0) hT3]; rfl
     have ndT : T ∉ fF bv' := fun hm => by
      have := hI.nd
      simp [hm] at this
     have neT : some T ≠ bv'.ownBlock := fun e => ndT (jI.2 e.symm)
     have obl := jZ hI.ob
     have hob : w7.ownsRow (w.heap.size + 2) tBl 14 bv' Bs.length (Bs.map bH.cells).flatten := jk hI.ob fun k hk => b7.block k (obl k hk).2
     have hBs : Bs.length = i := by
      have := congrArg List.length hI.core
      simpa [Nat.min_eq_left hi] using this
     have s7' : w6.heap.size = w7.heap.size := s7.symm
     have HS7 := Lib.hid s7'
     have hz7 : w.heap.size + 2 <= w7.heap.size := by have := hI.bel.size; have := b7.size; omega
     have HBs := Lib.hid hBs
     have hBs30 : Bs.length + 1 <= 31 := by omega
     clear s7 s7' hBs
     clear gr6 o6 at6 e6 f6 hT6 e10 e10' f10
     go_wp2_with (at_builtin; refine wpList_append_lies _ rfl _ _ _ rfl (w.heap.size + 2) tBl iB zB 14 128 Tryz.underlying23 hiB hzB hsB hyB rfl (by omega) bv' Bs.length (Bs.map bH.cells).flatten rfl (hob.alloc _) ⟨w7.heap.size, 0, none⟩ 1 1 [.slice (some ⟨g5, 0, none⟩) (D.blk i).st.length c5, .int .u8 x0, .int .u8 x1, .int .i64 x2, .int .i64 x3, .bool b4, .int .u8 x5, .int .i64 x6, .int .i64 x7, .int .i64 x8, .slice (some ⟨g6, 0, none⟩) (D.blk i).ops.length c6, .int .i64 y0, .bool y1, .int .u8 y2] rfl rfl (World.news_of_block (cs := #[.slice (some ⟨g5, 0, none⟩) (D.blk i).st.length c5, .int .u8 x0, .int .u8 x1, .int .i64 x2, .int .i64 x3, .bool b4, .int .u8 x5, .int .i64 x6, .int .i64 x7, .int .i64 x8, .slice (some ⟨g6, 0, none⟩) (D.blk i).ops.length c6, .int .i64 y0, .bool y1, .int .u8 y2]) (t := tBl) (fr := (0, 0)) (heap_alloc_new w7 _)) (by simp [Value.oneCell']) (by omega) (by unfold maxLen; omega) (by omega) (by simp; omega) (w7.heap.size + 1) (by simp) ?_; intro g8 c8 w8 o8 gr8 at8 lt8; have hT8 := D9 gr8 (oH hT3) neT; have e8 : w8.cell? ⟨T, 3, none⟩ = some bv' := (by rw [cell_of_row w8 T 3 _ tF (0, 0) hT8]; rfl); have f8 := jv hT8 3)
     have hst9 := setCell_at (v := .slice (some ⟨g8, 0, none⟩) (Bs.length + 1) c8) (o := 3) hT8
     have off9 : ∀ k, k ≠ T -> (w8.setCell ⟨T, 3, none⟩ (.slice (some ⟨g8, 0, none⟩) (Bs.length + 1) c8)).heap[k]? = w8.heap[k]? := fun k hk => jT hk
     have b9 : Below (w.heap.size + 2) W0 (w8.setCell ⟨T, 3, none⟩ (.slice (some ⟨g8, 0, none⟩) (Bs.length + 1) c8)) :=
      (Below.grown (((hI.bel.trans (b7.mono (by have := hI.bel.size; omega))).alloc hz7 _)) gr8 (by simp; omega) (fun k e => (obl k (jI.2 e)).1)).setCell hBT _
     go_roundw
     case rel =>
      generalize w8.setCell ⟨T, 3, none⟩ (.slice (some ⟨g8, 0, none⟩) (Bs.length + 1) c8) = w9 at *
      have k8 : ∀ {base e size v n xs}, w7.ownsRow base e size v n xs -> (∀ k, v.ownBlock = some k -> k ≠ T /\ k ∉ fF bv') -> w9.ownsRow base e size v n xs := fun ho hk => jk ho fun k hm => by
       have hm := jI.1 hm
       have hlt7 := (ho.lt k hm).2
       rw [off9 k (hk k hm).1, gr8.block k (by simp; omega) (fun e => (hk k hm).2 (jI.2 e.symm))]
       exact heap_alloc_old w7 _ hlt7
      have hs7 := HS7.out
      have hwr7 := b7.size
      have nd := hI.nd
      have ltAll : ∀ k ∈ T :: g :: (fF bv' ++ Bs.flatMap tJ), k < wr.heap.size := fun k hk => by
       simp only [List.mem_cons, List.mem_append, List.mem_flatMap] at hk
       rcases hk with rfl | rfl | hk | ⟨b, hb1, hk⟩
       ·exact ltT
       ·exact (jZ hI.ol _ (by simp [fF, Value.ownBlock])).2
       ·exact (obl k hk).2
       ·obtain ⟨p1, p2⟩ := hI.os b hb1
        rcases List.mem_append.1 hk with hk | hk
        ·exact (jZ p1 k hk).2
        ·exact (jZ p2 k hk).2
      have old : ∀ {base e size v n xs}, wr.ownsRow base e size v n xs -> w7.ownsRow base e size v n xs := fun ho => jk ho fun k hm => b7.block k (jZ ho k hm).2
      have nd0 := nd
      simp only [List.nodup_cons, List.nodup_append, List.mem_cons, List.mem_append, not_or] at nd
      obtain ⟨⟨nTg', nTb, nTF⟩, ⟨ngb, ngF⟩, ⟨_, _, nbF⟩⟩ := nd
      refine ⟨i + 1, .slice (some ⟨g8, 0, none⟩) (Bs.length + 1) c8, Bs ++ [⟨.slice (some ⟨g5, 0, none⟩) (D.blk i).st.length c5, (D.blk i).pre, .slice (some ⟨g6, 0, none⟩) (D.blk i).ops.length c6, (D.blk i).post, (D.blk i).st, (D.blk i).ops⟩], by go_num, by omega, ?_⟩
      refine ⟨?_, hst9, ?_, ?_, ?_, ?_, b9⟩
      ·have e : D.bs[i] = D.blk i := by
        unfold FnD.blk
        rw [List.getD_eq_getElem?_getD, List.getElem?_eq_getElem hlt]
        rfl
       rw [List.map_append, hI.core, List.take_succ_eq_append_getElem hlt, List.map_append, e]
       rfl
      ·exact k8 (old hI.ol) fun k e => by
        obtain rfl : g = k := by simpa [Value.ownBlock] using e
        exact ⟨fun e => nTg e.symm, ngb⟩
      ·have n8 : g8 ≠ T := fun e => by
        rcases at8 with h8 | h8
        ·exact ndT (jI.2 (e ▸ h8))
        ·omega
       have o9 := jk (w' := w9) o8 fun k hk => by
        obtain rfl : g8 = k := by simpa [fF, Value.ownBlock, eq_comm] using hk
        exact off9 _ n8
       have e1 : ∀ b' : bH, (Bs ++ [b']).length = Bs.length + 1 := fun b' => by simp
       have e2 : ((Bs ++ [(⟨.slice (some ⟨g5, 0, none⟩) (D.blk i).st.length c5, (D.blk i).pre, .slice (some ⟨g6, 0, none⟩) (D.blk i).ops.length c6, (D.blk i).post, (D.blk i).st, (D.blk i).ops⟩ : bH)]).map bH.cells).flatten = (Bs.map bH.cells).flatten ++ [.slice (some ⟨g5, 0, none⟩) (D.blk i).st.length c5, .int .u8 x0, .int .u8 x1, .int .i64 x2, .int .i64 x3, .bool b4, .int .u8 x5, .int .i64 x6, .int .i64 x7, .int .i64 x8, .slice (some ⟨g6, 0, none⟩) (D.blk i).ops.length c6, .int .i64 y0, .bool y1, .int .u8 y2] := by
        rw [List.map_append, List.flatten_append]
        congr 1
        simp [bH.cells, EP.out, EQ.out]
       rw [e1, e2]
       exact o9
      ·intro b hb'
       rcases List.mem_append.1 hb' with hb' | hb'
       ·obtain ⟨p1, p2⟩ := hI.os b hb'
        exact ⟨k8 (old p1) fun k e => by
         have hF : k ∈ Bs.flatMap tJ := List.mem_flatMap.2 ⟨b, hb', List.mem_append.2 (.inl (jI.2 e))⟩
         exact ⟨fun e => nTF (e ▸ hF), fun hm => nbF k hm k hF rfl⟩, k8 (old p2) fun k e => by
         have hF : k ∈ Bs.flatMap tJ := List.mem_flatMap.2 ⟨b, hb', List.mem_append.2 (.inr (jI.2 e))⟩
         exact ⟨fun e => nTF (e ▸ hF), fun hm => nbF k hm k hF rfl⟩⟩
       ·obtain rfl := List.mem_singleton.1 hb'
        have hwc := bel5.size
        exact ⟨k8 o7s fun k e => by
         obtain rfl : g5 = k := by simpa [Value.ownBlock] using e
         exact ⟨by omega, fun hm => by have := (obl _ hm).2; omega⟩, k8 o7a fun k e => by
         obtain rfl : g6 = k := by simpa [Value.ownBlock] using e
         exact ⟨by omega, fun hm => by have := (obl _ hm).2; omega⟩⟩
      ·have := YO (g5 := g5) (g6 := g6) (g8 := g8) nd0 ltAll lg5.1 (by omega) (at8.imp NQ (fun e => by omega))
       simpa [fF, Value.ownBlock, tJ, List.flatMap_append] using this
     case measure => simp [intOf]; omega
   ·obtain rfl : i = D.bs.length := by omega
    have t0 : wr.cell? ⟨T, 0, none⟩ = some (.int .i64 p) := by rw [cell_of_row wr T 0 _ tF (0, 0) hI.hT]; rfl
    have t1 : wr.cell? ⟨T, 1, none⟩ = some (.bool u) := by rw [cell_of_row wr T 1 _ tF (0, 0) hI.hT]; rfl
    have t2 : wr.cell? ⟨T, 2, none⟩ = some (.slice (some ⟨g, 0, none⟩) D.ls.length c) := by rw [cell_of_row wr T 2 _ tF (0, 0) hI.hT]; rfl
    have t3 : wr.cell? ⟨T, 3, none⟩ = some bv' := by rw [cell_of_row wr T 3 _ tF (0, 0) hI.hT]; rfl
    have hR := (hI.bel.block (w.heap.size + 1) (by omega)).trans g1
    have r0 : wr.cell? ⟨w.heap.size + 1, 0, none⟩ = some (.int .i64 0) := by rw [cell_of_row wr _ 0 _ tF (0, 0) hR]; rfl
    have r1 : wr.cell? ⟨w.heap.size + 1, 1, none⟩ = some (.bool false) := by rw [cell_of_row wr _ 1 _ tF (0, 0) hR]; rfl
    have r2 : wr.cell? ⟨w.heap.size + 1, 2, none⟩ = some (.slice none 0 0) := by rw [cell_of_row wr _ 2 _ tF (0, 0) hR]; rfl
    have r3 : wr.cell? ⟨w.heap.size + 1, 3, none⟩ = some (.slice none 0 0) := by rw [cell_of_row wr _ 3 _ tF (0, 0) hR]; rfl
    have q0 := jv hR 0
    have q1 := jv hR 1
    have q2 := jv hR 2
    have q3 := jv hR 3
    obtain ⟨n', A', c', rfl⟩ : ∃ (n' : Nat) (A' : Option Addr) (c' : Nat), bv' = .slice A' n' c' := by
     rcases hI.ob.2 with ⟨rfl, _⟩ | ⟨g', cap, cur, rfl, _⟩ <;> exact ⟨_, _, _, rfl⟩
    have hlr := hI.bel.size
    go_wp2
    letI : Base := (⟨w, [], []⟩ : Env).b
    have off : ∀ k, k ≠ w.heap.size + 1 -> ((((wr.setCell ⟨w.heap.size + 1, 0, none⟩ (.int .i64 p)).setCell ⟨w.heap.size + 1, 1, none⟩ (.bool u)).setCell ⟨w.heap.size + 1, 2, none⟩ (.slice (some ⟨g, 0, none⟩) D.ls.length c)).setCell ⟨w.heap.size + 1, 3, none⟩ (.slice A' n' c')).heap[k]? = wr.heap[k]? := fun k hk =>
     (jT hk).trans ((jT hk).trans ((jT hk).trans (jT hk)))
    have bE : Below w.heap.size w ((((wr.setCell ⟨w.heap.size + 1, 0, none⟩ (.int .i64 p)).setCell ⟨w.heap.size + 1, 1, none⟩ (.bool u)).setCell ⟨w.heap.size + 1, 2, none⟩ (.slice (some ⟨g, 0, none⟩) D.ls.length c)).setCell ⟨w.heap.size + 1, 3, none⟩ (.slice A' n' c')) :=
     ((((b0.trans (hI.bel.mono (by omega))).setCell (by simp) _).setCell (by simp) _).setCell (by simp) _).setCell (by simp) _
    have keep : ∀ {e size v n xs}, wr.ownsRow (w.heap.size + 2) e size v n xs -> ((((wr.setCell ⟨w.heap.size + 1, 0, none⟩ (.int .i64 p)).setCell ⟨w.heap.size + 1, 1, none⟩ (.bool u)).setCell ⟨w.heap.size + 1, 2, none⟩ (.slice (some ⟨g, 0, none⟩) D.ls.length c)).setCell ⟨w.heap.size + 1, 3, none⟩ (.slice A' n' c')).ownsRow w.heap.size e size v n xs := fun ho =>
     sU (jk ho fun k hk => off k (by have := (jZ ho k hk).1; omega)) (by omega)
    refine bodyPost_ret (v := .agg #[.int .i64 p, .bool u, .slice (some ⟨g, 0, none⟩) D.ls.length c, .slice A' n' c']) (by simp [results, Tryz.results8, go_sem, r0, r1, r2, r3]) rfl ?_
    refine ⟨g, c, .slice A' n' c', Bs, by rw [HP.out, HU.out], ⟨?_, keep hI.ol, keep hI.ob, fun b hb => ⟨keep (hI.os b hb).1, keep (hI.os b hb).2⟩, (List.nodup_cons.1 hI.nd).2⟩, bE⟩
    have := hI.core
    rwa [List.take_length] at this
end Go.Proofs.YtglmonlofejcgaaGreatDoor.twin
