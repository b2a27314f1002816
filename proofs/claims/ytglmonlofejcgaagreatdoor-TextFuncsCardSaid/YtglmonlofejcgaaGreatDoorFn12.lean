/- fnshape.twos: arguments, blocks, the last loop; what it answers. -/
import Derived.Test.YtglmonlofejcgaaGreatDoorFn11
set_option linter.unusedVariables false
set_option linter.unusedSectionVars false
set_option maxRecDepth 100000
namespace Go.Proofs.YtglmonlofejcgaaGreatDoor.twos
open Go.RowKit Am
def aiH (op : List Value) (C : Ct) : List (Nat -> Int) := [C.a, C.p, bump C.a (ah op 2), bump C.p (ah op 2), C.s, fun j => b2i (C.i j)]
def a0i (op : List Value) (C : Ct) : List Int := bU (aiH op C) ++ (tZ C.a (ah op 2) ++ tZ C.p (ah op 2))
def mA (D : FnD) (C : Ct) (i k : Nat) : List Int := a0i (D.opd i k) (C.opd ((D.blk i).ops.take k))
theorem amj {D : FnD} {q : At} {C : Ct} {M : Int} (h : C.In M) (hM : M <= 900000) : uj (RY trA) (aF (aJ D q (a0i (D.opd q.i q.m) C))) := by
 refine Dv (aQ D q _) fun t ht => ?_
 have l55 : aF (aJ D q (a0i (D.opd q.i q.m) C)) 55 = ah (D.opd q.i q.m) 2 := rfl
 unfold a0i at l55 |-
 simp only [trA, List.mem_cons, List.not_mem_nil, or_false] at ht
 rcases ht with rfl | rfl
 ·exact jD (N := 6) (n := 0) rfl rfl (by rw [l55]; rfl) rfl (by rw [l55]; rfl) (by rw [l55]; rfl) h.a (by omega)
 ·exact jD (N := 6) (n := 2) rfl rfl (by rw [l55]; rfl) rfl (by rw [l55]; rfl) (by rw [l55]; rfl) h.p (by omega)
def QC (b : bH) (C : Ct) : List (Nat -> Int) :=
 let C1 := C.stm b.st
 let C2 := (C1.dest (ah b.post 0)).opd b.ops
 [C.a, C.p, C.s, fun j => b2i (C.i j), C1.a, C1.p, C1.s, fun j => b2i (C1.i j), bump C1.a (ah b.pre 3), bump C1.a (ah b.post 0), C2.a, C2.p]
def aix (b : bH) (C : Ct) : List Int := bU (QC b C) ++ (tZ (C.stm b.st).a (ah b.pre 3) ++ tZ (C.stm b.st).a (ah b.post 0))
def mB' (D : FnD) (i : Nat) : List Int := aix (D.blk i) (Ct.at D i)
theorem ami {D : FnD} {i : Nat} {M : Int} (h : (Ct.at D i).In M) (hM : M + 3 * (D.blk i).st.length <= 900000) : uj (RY trO) (aF (aJ D (atB i) (mB' D i))) := by
 refine Dv (aQ D _ _) fun t ht => ?_
 have l11 : aF (aJ D (atB i) (mB' D i)) 11 = ah (D.blk i).pre 3 := rfl
 have l18 : aF (aJ D (atB i) (mB' D i)) 18 = ah (D.blk i).post 0 := rfl
 have h1 := In.stm h (D.blk i).st
 unfold mB' aix at l11 l18 |-
 simp only [trO, List.mem_cons, List.not_mem_nil, or_false] at ht
 rcases ht with rfl | rfl
 ·exact jD (N := 12) (n := 0) rfl rfl (by rw [l11]; rfl) rfl (by rw [l11]; rfl) (by rw [l11]; rfl) h1.a (by omega)
 ·exact jD (N := 12) (n := 2) rfl rfl (by rw [l18]; rfl) rfl (by rw [l18]; rfl) (by rw [l18]; rfl) h1.a (by omega)
def Dy (D : FnD) (t : Nat) : Bool := !(Ct.fn D).i t || (decide (D.p < t) && (decide ((Ct.fn D).a t = 2) && (decide ((Ct.fn D).p t = 1) && decide ((Ct.fn D).s t = 1))))
def qW (D : FnD) : Bool := (List.range 16).all (Dy D)
def mF (D : FnD) : List Int := bU [(Ct.fn D).a, (Ct.fn D).p, (Ct.fn D).s, fun j => b2i ((Ct.fn D).i j)]
section
variable {w : World} {v : Value} {D : FnD} (h : aT w v D)
include h
theorem args {C : Ct} {M : Int} (hC : C.In M) (hM : M <= 100000) {q : At} {m : List Int} (hi : q.i < D.bs.length) (hB : D.bs.length <= 1000) (hA : (D.blk q.i).ops.length <= 1000) (hok : ((D.blk q.i).ops.all fun el => (bn 0).val el) = true)
  (h0 : ∀ j, j < 16 -> aF (aJ D q m) (nm 9 j) = C.a j /\ aF (aJ D q m) (nm 5 j) = C.p j /\ aF (aJ D q m) (nm 6 j) = C.s j /\ aF (aJ D q m) (nm 7 j) = b2i (C.i j))
  (h1 : ∀ j, j < 16 -> aF (aJ D q m) (nm 10 j) = (C.opd (D.blk q.i).ops).a j /\ aF (aJ D q m) (nm 11 j) = (C.opd (D.blk q.i).ops).p j) :
  ∀ K (ok : aG K (fnB w D q m).rho (fnB w D q m).sig), @aO ((fnB w D q m).aH K ok) Tryz.prog (rowA K) iy := by
 intro K ok
 have fit : ∀ k, k <= (D.blk q.i).ops.length -> Fits D (made.atM q.i k) := fun k hk => gU ⟨by show q.i <= 1000; omega, Nat.zero_le _, by show k <= 1000; omega, Nat.zero_le _⟩
 have okk := (iC (D.blk q.i).ops [] fun el => (bn 0).val el).2 hok
 have r0 : ∀ k b F, (aiH (D.opd q.i k) (C.opd ((D.blk q.i).ops.take k)))[b]? = some F -> ∀ j, j < 16 -> (fnB w D (made.atM q.i k) (mA D C q.i k)).rho (nm b j) = F j := fun k b F e j hj => gI e hj
 have us : ∀ u ∈ us1, ig (fnB w D q m) (fnB w D (made.atM q.i 0) (mA D C q.i 0)) u := fun u hu => by
  rcases List.mem_cons.1 hu with rfl | hu
  ·exact dN fun r v hv => hv
  refine dO (dG fun j hj => ?_) (dO (dG fun j hj => ?_) (dO (dG fun j hj => ?_) (iK fun j hj => ?_))) u hu
  ·exact (h0 j hj).1.trans ((r0 0 0 _ rfl j hj).trans (by show C.a j + 0 = _; omega)).symm
  ·exact (h0 j hj).2.1.trans ((r0 0 1 _ rfl j hj).trans (by show C.p j + 0 = _; omega)).symm
  ·exact (h0 j hj).2.2.1.trans (r0 0 4 _ rfl j hj).symm
  ·exact (h0 j hj).2.2.2.trans (r0 0 5 _ rfl j hj).symm
 refine @cZ _ _ (fun k => fnB w D (made.atM q.i k) (mA D C q.i k)) iy _ _ hdA _ _ (fun e => by cases e) (D.blk q.i).ops.length (bK q (made.atM q.i 0) rfl _ _) us (fun k hk => ?_) ?_ 2 K ok
 ·have rg := Jm (KI h hi hk).1 (okk k hk)
  refine bG DC (bg (@aV (fnB w D (made.atM q.i k) (mA D C q.i k)) _ _ (aU h _ _) (@aV (fnB w D (made.atM q.i k) (mA D C q.i k)) _ _ (dL h (q := made.atM q.i k) hi _) (IB h (q := made.atM q.i k) hi hk _)))) (bK (made.atM q.i k) (made.atM q.i (k + 1)) rfl _ _) (L := LA) ?_
   (amj (q := made.atM q.i k) (In.opd hC _) (by have : ((D.blk q.i).ops.take k).length <= 1000 := (by rw [List.length_take]; omega); omega)) (fun p hp => by cases hp) (fun u hu => ?_) rfl (bf fO iy)
  ·have hb := ((eH h (made.atM q.i k) (fit k (by omega)) (mA D C q.i k)).pin (i := 6) (c := 1) (show b2i (decide ((q.i : Int) < D.bs.length)) = 1 from (bY _).2 (by omega))).pin (i := 52) (c := 1) (show b2i (decide ((k : Int) < (D.blk q.i).ops.length)) = 1 from (bY _).2 (by omega))
   exact (hb.lo (i := 55) (c := 0) (show 0 <= ah (D.opd q.i k) 2 from rg.1)).hi (i := 55) (c := 15) (show ah (D.opd q.i k) 2 <= 15 from rg.2)
  ·have e53 : (fnB w D (made.atM q.i k) (mA D C q.i k)).rho 53 = ah (D.opd q.i k) 0 := rfl
   have e56 : (fnB w D (made.atM q.i k) (mA D C q.i k)).rho 56 = ah (D.opd q.i k) 3 := rfl
   have e57 : (fnB w D (made.atM q.i k) (mA D C q.i k)).rho 57 = ah (D.opd q.i k) 4 := rfl
   have sa : ∀ j, (C.opd ((D.blk q.i).ops.take (k + 1))).a j = (C.opd ((D.blk q.i).ops.take k)).a j + xQ (D.opd q.i k) j := fun j => by show C.a j + acc _ _ = C.a j + acc _ _ + _; rw [pY _ _ [] hk]; unfold FnD.opd; omega
   have sp : ∀ j, (C.opd ((D.blk q.i).ops.take (k + 1))).p j = (C.opd ((D.blk q.i).ops.take k)).p j + qY (D.opd q.i k) j := fun j => by show C.p j + acc _ _ = C.p j + acc _ _ + _; rw [pY _ _ [] hk]; unfold FnD.opd; omega
   rcases List.mem_cons.1 hu with rfl | hu
   ·exact dN fun r v hv => hv
   refine dO (dG fun j hj => ?_) (dO (dG fun j hj => ?_) (dO (dG fun j hj => ?_) (iK fun j hj => ?_))) u hu
   ·have eN : Et.num (fnB w D (made.atM q.i k) (mA D C q.i k)).rho = !decide (ah (D.opd q.i k) 0 = 1) := by
     show (!(decide (_ = (1 : Int)) && true)) = _
     rw [e53, Bool.and_true]
    simp only [List.map_cons, List.map_nil, List.headD_cons]
    rw [eN, r0 (k + 1) 0 _ rfl j hj, sa j]
    unfold xQ
    cases hp : (!decide (ah (D.opd q.i k) 0 = 1)) with
    | false => rw [cond_false, r0 k 0 _ rfl j hj, Bool.false_and]; show _ = _ + (0 : Int); omega
    | true => rw [cond_true, r0 k 2 _ rfl j hj, Bool.true_and]; rfl
   ·have eN : WX.num (fnB w D (made.atM q.i k) (mA D C q.i k)).rho = Ey (D.opd q.i k) := by
     show ((decide (_ = (3 : Int)) && true) && ((decide (_ = (0 : Int)) && true) && (decide (_ = (0 : Int)) && true))) = _
     rw [e53, e56, e57, Bool.and_true, Bool.and_true, Bool.and_true]
     rfl
    simp only [List.map_cons, List.map_nil, List.headD_cons]
    rw [eN, r0 (k + 1) 1 _ rfl j hj, sp j]
    unfold qY
    cases hp : Ey (D.opd q.i k) with
    | false => rw [cond_false, r0 k 1 _ rfl j hj, Bool.false_and]; show _ = _ + (0 : Int); omega
    | true => rw [cond_true, r0 k 3 _ rfl j hj, Bool.true_and]; rfl
   ·exact (r0 k 4 _ rfl j hj).trans (r0 (k + 1) 4 _ rfl j hj).symm
   ·exact (r0 k 5 _ rfl j hj).trans (r0 (k + 1) 5 _ rfl j hj).symm
 ·refine bG MF (bg (@aV (fnB w D (made.atM q.i _) (mA D C q.i _)) _ _ (aU h _ _) (dL h (q := made.atM q.i _) hi _))) (bK (made.atM q.i (D.blk q.i).ops.length) q rfl _ _) (L := LA0) ?_ (aQ D _ _) (fun p hp => by cases hp) (fun u hu => ?_) rfl (bf fO iy)
  ·exact ((eH h _ (fit _ (Nat.le_refl _)) _).pin (i := 6) (c := 1) (show b2i (decide ((q.i : Int) < D.bs.length)) = 1 from (bY _).2 (by omega))).pin (i := 52) (c := 0) (show b2i (decide (((D.blk q.i).ops.length : Int) < (D.blk q.i).ops.length)) = 0 by rw [decide_eq_false (by omega)]; rfl)
  ·have rr := r0 (D.blk q.i).ops.length
   rw [List.take_length] at rr
   refine dO (dG fun j hj => ?_) (dO (dG fun j hj => ?_) (dO (dG fun j hj => ?_) (iK fun j hj => ?_))) u hu
   ·exact (rr 0 _ rfl j hj).trans (h1 j hj).1.symm
   ·exact (rr 1 _ rfl j hj).trans (h1 j hj).2.symm
   ·exact (rr 4 _ rfl j hj).trans (h0 j hj).2.2.1.symm
   ·exact (rr 5 _ rfl j hj).trans (h0 j hj).2.2.2.symm
theorem dZ {i b : Nat} {G : Nat -> Int} (e : (QC (D.blk i) (Ct.at D i))[b]? = some G) {j : Nat} (hj : j < 16) : (fnB w D (atB i) (mB' D i)).rho (nm b j) = G j := gI e hj
theorem TK (b : bH) (C1 : Ct) (j : Nat) : ((C1.jmp b).a j = (bif (decide (ah b.pre 0 = 2) && !decide (ah b.pre 1 = 1)) then bump C1.a (ah b.pre 3) j else bif decide (ah b.pre 0 = 4) then ((C1.dest (ah b.post 0)).opd b.ops).a j else C1.a j)) /\
  ((C1.jmp b).p j = (bif decide (ah b.pre 0 = 4) then ((C1.dest (ah b.post 0)).opd b.ops).p j else C1.p j)) /\ (C1.jmp b).s j = C1.s j /\ (C1.jmp b).i j = C1.i j := by
 unfold Ct.jmp
 by_cases h2 : ah b.pre 0 = 2
 ·rw [if_pos h2, decide_eq_true h2, decide_eq_false (show ¬ ah b.pre 0 = 4 by omega)]
  by_cases h1 : ah b.pre 1 = 1
  ·rw [if_pos h1, decide_eq_true h1]; exact ⟨rfl, rfl, rfl, rfl⟩
  ·rw [if_neg h1, decide_eq_false h1]; exact ⟨rfl, rfl, rfl, rfl⟩
 ·rw [if_neg h2, decide_eq_false h2]
  by_cases h4 : ah b.pre 0 = 4
  ·rw [if_pos h4, decide_eq_true h4]; exact ⟨rfl, rfl, rfl, rfl⟩
  ·rw [if_neg h4, decide_eq_false h4]; exact ⟨rfl, rfl, rfl, rfl⟩
theorem outer (hs : Sm D) (hok : ∀ b ∈ D.bs, made.okB b = true) : ∀ K (ok : aG K (fnB w D (atB 0) (mF D)).rho (fnB w D (atB 0) (mF D)).sig), @aO ((fnB w D (atB 0) (mF D)).aH K ok) Tryz.prog (akL K) fM := by
 intro K ok
 have hn := hs.b
 have okb : ∀ i, i < D.bs.length -> ((D.blk i).st.all fun st => dJ.val st) = true /\ zi (D.blk i) = true := fun i hi => by
  have := hok _ (kW hi)
  unfold made.okB at this
  rwa [Bool.and_eq_true] at this
 have hfO : fO ≠ f := by decide
 have inat : ∀ i, i < D.bs.length -> (Ct.at D i).In 24000 := fun i hi => In.more (In.at hs (by omega)) (by omega)
 have jf := fun i (hi : i < D.bs.length) => DX (uq h hi) (okb i hi).2
 have opsok : ∀ i, i < D.bs.length -> ((D.blk i).ops.all fun el => (bn 0).val el) = true := fun i hi => by
  rcases (jf i hi).2.2 with e | e
  ·exact e
  ·rw [List.eq_nil_of_length_eq_zero e]; rfl
 have rI : ∀ i (hi : i < D.bs.length) K (ok : aG K (fnB w D (atB i) (mB' D i)).rho (fnB w D (atB i) (mB' D i)).sig), @aO ((fnB w D (atB i) (mB' D i)).aH K ok) Tryz.prog (mD K) aY := fun i hi =>
  inner h (inat i hi) (by decide) (q := atB i) hi (by omega) (by have := (hs.s _ (kW hi)).1; show (D.blk i).st.length <= 1000; omega) (okb i hi).1
   (fun j hj => ⟨dZ h (i := i) (b := 0) rfl hj, dZ h (i := i) (b := 1) rfl hj, dZ h (i := i) (b := 2) rfl hj, dZ h (i := i) (b := 3) (G := fun j => b2i ((Ct.at D i).i j)) rfl hj⟩) (fun j hj => ⟨dZ h (i := i) (b := 4) rfl hj, dZ h (i := i) (b := 5) rfl hj, dZ h (i := i) (b := 6) rfl hj, dZ h (i := i) (b := 7) (G := fun j => b2i (((Ct.at D i).stm (D.blk i).st).i j)) rfl hj⟩)
 have rA : ∀ i (hi : i < D.bs.length) K (ok : aG K (fnB w D (atB i) (mB' D i)).rho (fnB w D (atB i) (mB' D i)).sig), @aO ((fnB w D (atB i) (mB' D i)).aH K ok) Tryz.prog (rowA K) iy := fun i hi =>
  args h (C := ((Ct.at D i).stm (D.blk i).st).dest (ah (D.blk i).post 0)) (In.dest (In.stm (inat i hi) _) _) (by have := (hs.s _ (kW hi)).1; omega) (q := atB i) hi (by omega) (by have := (hs.s _ (kW hi)).2; show (D.blk i).ops.length <= 1000; omega) (opsok i hi)
   (fun j hj => ⟨dZ h (i := i) (b := 9) rfl hj, dZ h (i := i) (b := 5) rfl hj, dZ h (i := i) (b := 6) rfl hj, dZ h (i := i) (b := 7) (G := fun j => b2i (((Ct.at D i).stm (D.blk i).st).i j)) rfl hj⟩) (fun j hj => ⟨dZ h (i := i) (b := 10) rfl hj, dZ h (i := i) (b := 11) rfl hj⟩)
 have us : ∀ u ∈ isU (.xi .i64 4) (.int .i64 0) :: (oL 0 ++ (oL 1 ++ (oL 2 ++ DI 3))), ig (fnB w D (atB 0) (mF D)) (fnB w D (atB 0) (mB' D 0)) u := fun u hu => by
  rcases List.mem_cons.1 hu with rfl | hu
  ·exact dN fun r v hv => hv
  exact dO (uM fun j hj => dZ h (i := 0) (b := 0) rfl hj) (dO (uM fun j hj => dZ h (i := 0) (b := 1) rfl hj) (dO (uM fun j hj => dZ h (i := 0) (b := 2) rfl hj) (Hq fun j hj => (dZ h (i := 0) (b := 3) (G := fun j => b2i ((Ct.at D 0).i j)) rfl hj).trans rfl))) u hu
 refine @cZ _ _ (fun i => fnB w D (atB i) (mB' D i)) fM _ _ hdO _ _ (fun e => by cases e) D.bs.length (bM _ _ _ _) us (fun i hi => ?_) ?_ 5 K ok
 ·refine bG Kr (fG iR (@aV (fnB w D (atB i) (mB' D i)) _ _ (aU h _ _) (dL h (q := atB i) hi _)) (rows_ok fun K ok p hp => ?_)) (bM _ _ _ _) (L := LO) ?_ (ami (inat i hi) (by have := (hs.s _ (kW hi)).1; omega)) (fun p hp => by cases hp) (fun u hu => ?_) rfl (fun K ok => oP (F := F) (cc := fM) fun p hp e => ?_)
  ·simp only [List.mem_cons, List.not_mem_nil, or_false] at hp
   rcases hp with rfl | rfl
   ·exact ⟨F, Tryz.func34, fun c hc => iF Ep (rI i hi K ok) hc⟩
   ·exact ⟨FO, Tryz.func98, fun c hc => iF RX (rA i hi K ok) hc⟩
  ·have hb := (eH h (atB i) (gG (by omega)) (mB' D i)).pin (i := 6) (c := 1) (show b2i (decide ((i : Int) < D.bs.length)) = 1 from (bY _).2 (by omega))
   obtain ⟨⟨j1, j2⟩, ⟨j3, j4⟩, _⟩ := jf i hi
   exact (((hb.lo (i := 11) (c := 0) j1).hi (i := 11) (c := 15) j2).lo (i := 18) (c := 0) j3).hi (i := 18) (c := 15) j4
  ·have e8 : (fnB w D (atB i) (mB' D i)).rho 8 = ah (D.blk i).pre 0 := rfl
   have e9 : (fnB w D (atB i) (mB' D i)).rho 9 = ah (D.blk i).pre 1 := rfl
   have eb : brN.num (fnB w D (atB i) (mB' D i)).rho = (decide (ah (D.blk i).pre 0 = 2) && !decide (ah (D.blk i).pre 1 = 1)) := by
    show ((decide (_ = (2 : Int)) && true) && !(decide (_ = (1 : Int)) && true)) = _
    rw [e8, e9, Bool.and_true, Bool.and_true]
   have ec : caN.num (fnB w D (atB i) (mB' D i)).rho = decide (ah (D.blk i).pre 0 = 4) := by
    show (decide (_ = (4 : Int)) && true) = _
    rw [e8, Bool.and_true]
   have rn : ∀ b G, (QC (D.blk (i + 1)) (Ct.at D (i + 1)))[b]? = some G -> ∀ j, j < 16 -> (fnB w D (atB (i + 1)) (mB' D (i + 1))).rho (nm b j) = G j := fun b G e j hj => gI e hj
   have hsucc := Ie (D := D) hi
   have jr := fun j => TK h (D.blk i) ((Ct.at D i).stm (D.blk i).st) j
   rcases List.mem_cons.1 hu with rfl | hu
   ·exact dN fun r v hv => hv
   refine dO (dG fun j hj => ?_) (dO (dG fun j hj => ?_) (dO (dG fun j hj => ?_) (iK fun j hj => ?_))) u hu
   ·simp only [List.map_cons, List.map_nil, List.headD_cons, List.drop_succ_cons, List.drop_zero]
    rw [eb, ec, rn 0 _ rfl j hj, hsucc]
    show _ = (((Ct.at D i).stm (D.blk i).st).jmp (D.blk i)).a j
    rw [(jr j).1]
    cases (decide (ah (D.blk i).pre 0 = 2) && !decide (ah (D.blk i).pre 1 = 1)) with
    | true => exact dZ h (i := i) (b := 8) rfl hj
    | false => cases decide (ah (D.blk i).pre 0 = 4) with
     | true => exact dZ h (i := i) (b := 10) rfl hj
     | false => exact dZ h (i := i) (b := 4) rfl hj
   ·simp only [List.map_cons, List.map_nil, List.headD_cons]
    rw [ec, rn 1 _ rfl j hj, hsucc]
    show _ = (((Ct.at D i).stm (D.blk i).st).jmp (D.blk i)).p j
    rw [(jr j).2.1]
    cases decide (ah (D.blk i).pre 0 = 4) with
    | true => exact dZ h (i := i) (b := 11) rfl hj
    | false => exact dZ h (i := i) (b := 5) rfl hj
   ·rw [rn 2 _ rfl j hj, hsucc]
    show _ = (((Ct.at D i).stm (D.blk i).st).jmp (D.blk i)).s j
    rw [(jr j).2.2.1]
    exact dZ h (i := i) (b := 6) rfl hj
   ·rw [rn 3 _ rfl j hj, hsucc]
    show _ = b2i ((((Ct.at D i).stm (D.blk i).st).jmp (D.blk i)).i j)
    rw [(jr j).2.2.2]
    exact dZ h (i := i) (b := 7) (G := fun j => b2i (((Ct.at D i).stm (D.blk i).st).i j)) rfl hj
  ·simp only [List.mem_cons, List.not_mem_nil, or_false] at hp
   rcases hp with rfl | rfl
   ·exact qy Rw (rI i hi K ok)
   ·exact absurd e hfO
 ·refine bG Nq (bg (aU h _ _)) (bM _ _ _ _) (L := LO0) ?_ (aQ D _ _) (fun p hp => by cases hp) (fun u hu => ?_) rfl (bf f fM)
  ·exact (eH h (atB D.bs.length) (gG (by omega)) _).pin (i := 6) (c := 0) (show b2i (decide ((D.bs.length : Int) < D.bs.length)) = 0 by rw [decide_eq_false (by omega)]; rfl)
  ·have e : Ct.at D D.bs.length = Ct.fn D := by unfold Ct.at Ct.fn; rw [List.take_length]
   have rr : ∀ b G, (QC (D.blk D.bs.length) (Ct.at D D.bs.length))[b]? = some G -> ∀ j, j < 16 -> (fnB w D (atB D.bs.length) (mB' D D.bs.length)).rho (nm b j) = G j := fun b G e j hj => gI e hj
   have r2 : ∀ b G, [(Ct.fn D).a, (Ct.fn D).p, (Ct.fn D).s, fun j => b2i ((Ct.fn D).i j)][b]? = some G -> ∀ j, j < 16 -> (fnB w D (atB 0) (mF D)).rho (nm b j) = G j := fun b G e j hj => by
    have := gI (D := D) (q := atB 0) (tail := []) e hj
    rwa [List.append_nil] at this
   rw [e] at rr
   refine dO (dG fun j hj => ?_) (dO (dG fun j hj => ?_) (dO (dG fun j hj => ?_) (iK fun j hj => ?_))) u hu
   ·exact (rr 0 _ rfl j hj).trans (r2 0 _ rfl j hj).symm
   ·exact (rr 1 _ rfl j hj).trans (r2 1 _ rfl j hj).symm
   ·exact (rr 2 _ rfl j hj).trans (r2 2 _ rfl j hj).symm
   ·exact (rr 3 _ rfl j hj).trans (r2 3 _ rfl j hj).symm
end
end Go.Proofs.YtglmonlofejcgaaGreatDoor.twos
