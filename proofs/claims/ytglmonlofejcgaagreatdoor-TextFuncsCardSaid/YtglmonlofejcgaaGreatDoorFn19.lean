/- What the reference's block answers. -/
import Derived.Test.YtglmonlofejcgaaGreatDoorFn18
set_option linter.unusedVariables false
set_option linter.unusedSectionVars false
set_option maxRecDepth 100000
namespace Go.Proofs.YtglmonlofejcgaaGreatDoor.block
open Go.RowKit Am
def mR (G : Nat -> Int) : List Int := bU [G] ++ []
def okS (D : FnD) (st : List Value) : Bool := dJ.val st && !far.sF (twos.qX st) D.ls.length
def acG (nB : Int) (b : bH) : Bool := (decide (ah b.pre 0 = 3) || decide (ah b.pre 0 = 5)) || (decide (ah b.pre 7 < nB) && (!decide (ah b.pre 0 = 2) || (decide (ah b.pre 7 = ah b.pre 8) || decide (ah b.pre 8 < nB))))
def okB (D : FnD) (b : bH) : Bool := b.st.all (okS D) && (zi b && (!far.sF (occJump.nN b) D.ls.length && acG D.bs.length b))
theorem afv (st : List Value) : ∀ j, -9223372036854775808 <= twos.qX st j /\ twos.qX st j <= 9223372036854775807 := fun j => by
 have := twos.Xz st j
 omega
theorem a01 (b : bH) (hl : b.ops.length <= 1000) : ∀ j, 0 <= occJump.nN b j /\ occJump.nN b j <= 1001 := fun j => by
 have h1 := occJump.aa2 b.ops
 have h2 := Cc (F := occJump.MJ b) (l := ah b.post 0) (M := b.ops.length) h1 j
 have h3 := Cc (F := occurs.o0) (l := ah b.pre 3) (M := 0) (fun j => ⟨Int.le_refl _, Int.le_refl _⟩) j
 have h1 := h1 j
 unfold occJump.nN
 unfold occJump.MJ at h2 |-
 split
 ·split
  ·omega
  ·omega
 ·split
  ·omega
  ·omega
section
variable {w : World} {v : Value} {D : FnD} (h : aT w v D)
include h
theorem a09 (q : At) (G : Nat -> Int) (hG : ∀ j, -9223372036854775808 <= G j /\ G j <= 9223372036854775807) (h1 : 1 <= D.ls.length) (h16 : D.ls.length <= 16) {b : Bool} (hb : far.sF G D.ls.length = b) (K : Know) (ok : aG K (fnB w D q (mR G)).rho (fnB w D q (mR G)).sig) : @Sound ((fnB w D q (mR G)).aH K ok) Tryz.prog (rF b) := by
 refine @dA ((fnB w D q (mR G)).aH K ok) _ far.f ⟨_, Tryz.func106, by kernel_rfl, by kernel_rfl⟩ _ _ (by rfl) [nZ G, .int .i64 D.ls.length] ⟨@uz ((fnB w D q (mR G)).aH K ok) 0 G (fun j hj => gI (D := D) (q := q) (fs := [G]) (tail := []) (b := 0) rfl hj) r0, rfl, trivial⟩ (.bool b) (fun r => vmB _ r b) fun w' hw => ?_
 rw [<- hb]
 exact far.aia G hG D.ls.length h1 h16 w'
theorem Em {F : FuncId} (hF : dB Tryz.prog F) {q : At} {G : Nat -> Int} {cs : List S} {u : Value} (hu : ak (@VA (fnB w D q (mR G)) r0) [.g cs] [u]) (h1 : [A.g cs].all A.qJ = true) (ha : ∀ w', aT w' v D -> bF F [u] w' (nZ G)) (K : Know) (ok : aG K (fnB w D q (mR G)).rho (fnB w D q (mR G)).sig) : @Sound ((fnB w D q (mR G)).aH K ok) Tryz.prog (ku F [.g cs] (.a (.g (bJ 0)))) := by
 refine @dA ((fnB w D q (mR G)).aH K ok) _ F hF _ _ h1 [u] hu (nZ G) (fun r => @uz ((fnB w D q (mR G)).aH K ok) 0 G (fun j hj => gI (D := D) (q := q) (fs := [G]) (tail := []) (b := 0) rfl hj) r) fun w' hw => ha w' (h.frz hw)
theorem inner {i : Nat} {q : At} {m : List Int} (hq : q.i = i) (hi : i < D.bs.length) (hB : D.bs.length <= 1000) (hS : (D.blk i).st.length <= 1000) (h1 : 1 <= D.ls.length) (h16 : D.ls.length <= 16) :
  ((D.blk i).st.all (okS D) = true -> ∀ K (ok : aG K (fnB w D q m).rho (fnB w D q m).sig), @aO ((fnB w D q m).aH K ok) Tryz.prog (row (.exit 0) sN K) lH) /\
  ((D.blk i).st.all (okS D) = false -> ∀ K (ok : aG K (fnB w D q m).rho (fnB w D q m).sig), @aO ((fnB w D q m).aH K ok) Tryz.prog (row .ret sR K) lH) := by
 let bk : Nat -> At := made.atS i
 let mk : Nat -> List Int := fun k => mR (twos.qX (D.stm i k))
 have fit : ∀ k, k <= (D.blk i).st.length -> Fits D (bk k) := fun k hk => gU ⟨by show i <= 1000; omega, by show k <= 1000; omega, Nat.zero_le _, Nat.zero_le _⟩
 have st : ∀ k, k <= (D.blk i).st.length -> ((Lf.of (fE ++ [])).pin 6 1).Holds (aF (aJ D (bk k) (mk k))) (fun _ => []) := fun k hk => (twos.eH h (bk k) (fit k hk) (mk k)).pin (i := 6) (c := 1) (show b2i (decide ((i : Int) < D.bs.length)) = 1 from (bY _).2 (by omega))
 have us : ∀ u ∈ [isU (.xi .i64 21) (.int .i64 0)], ig (fnB w D q m) (fnB w D (bk 0) (mk 0)) u := fun u hu => by
  obtain rfl := List.mem_singleton.1 hu
  exact dN fun r v hv => hv
 have tb : ∀ k, k < (D.blk i).st.length -> @aZ (fnB w D (bk k) (mk k)) tbI := fun k hk => @aV (fnB w D (bk k) (mk k)) _ _ (aU h _ _) (@aV (fnB w D (bk k) (mk k)) _ _ (dL h (q := bk k) hi _) (Dt h (q := bk k) hi hk _))
 have pin1 : ∀ k, k < (D.blk i).st.length -> L1.Holds (aF (aJ D (bk k) (mk k))) (fun _ => []) := fun k hk => (st k (by omega)).pin (i := 23) (c := 1) (show b2i (decide ((k : Int) < (D.blk i).st.length)) = 1 from (bY _).2 (by omega))
 have pV : ∀ k (hk : k < (D.blk i).st.length) b, dJ.val (D.stm i k) = b -> ∀ K (ok : aG K (fnB w D (bk k) (mk k)).rho (fnB w D (bk k) (mk k)).sig), @Sound ((fnB w D (bk k) (mk k)).aH K ok) Tryz.prog (rV b) := fun k hk b e =>
  a1h h ⟨_, Tryz.func105, by kernel_rfl, by kernel_rfl⟩ QT vmB (q := bk k) hi hk e _
 have pO : ∀ k (hk : k < (D.blk i).st.length), dJ.val (D.stm i k) = true -> ∀ K (ok : aG K (fnB w D (bk k) (mk k)).rho (fnB w D (bk k) (mk k)).sig), @Sound ((fnB w D (bk k) (mk k)).aH K ok) Tryz.prog rO := fun k hk e =>
  Em h ⟨_, Tryz.func79, by kernel_rfl, by kernel_rfl⟩ (occurs.Z5 h (bk k) _ hi hk) (by rfl) fun w' hw => occurs.a1f hw hB hS hi hk e
 have pF : ∀ k (hk : k < (D.blk i).st.length) b, far.sF (twos.qX (D.stm i k)) D.ls.length = b -> ∀ K (ok : aG K (fnB w D (bk k) (mk k)).rho (fnB w D (bk k) (mk k)).sig), @Sound ((fnB w D (bk k) (mk k)).aH K ok) Tryz.prog (rF b) := fun k hk b e =>
  a09 h (bk k) _ (afv _) h1 h16 e
 have rg : ∀ k (hk : k < (D.blk i).st.length) (l : List aS), (∀ K (ok : aG K (fnB w D (bk k) (mk k)).rho (fnB w D (bk k) (mk k)).sig), ∀ o ∈ l, @Sound ((fnB w D (bk k) (mk k)).aH K ok) Tryz.prog o) -> jG Tryz.prog (dH (Fp l) tbI aX) (fnB w D (bk k) (mk k)) := fun k hk l hl =>
  fG (fun K ok => @jA ((fnB w D (bk k) (mk k)).aH K ok) _ _ (hl K ok)) (tb k hk) nK
 have step' : ∀ k, k < (D.blk i).st.length -> okS D (D.stm i k) = true -> gJ Tryz.prog (fnB w D (bk k) (mk k)) (fnB w D (bk (k + 1)) (mk (k + 1))) lH hd .normal hd := fun k hk hok => by
  unfold okS at hok
  rw [Bool.and_eq_true, Bool.not_eq_true'] at hok
  refine bG step (rg k hk _ fun K ok o ho => ?_) (bK (bk k) (bk (k + 1)) rfl _ _) (pin1 k hk) (aQ D _ _) (fun p hp => by cases hp) (fun u hu => ?_) rfl (bf f lH)
  ·simp only [List.mem_cons, List.not_mem_nil, or_false] at ho
   rcases ho with rfl | rfl | rfl
   ·exact pV k hk true hok.1 K ok
   ·exact pO k hk hok.1 K ok
   ·exact pF k hk false hok.2 K ok
  ·obtain rfl := List.mem_singleton.1 hu
   exact dN fun r v hv => hv
 have rg0 : ∀ k, jG Tryz.prog (dH (Fp []) (bW.app iG) aX) (fnB w D (bk k) (mk k)) := fun k =>
  fG (fun K ok => @jA ((fnB w D (bk k) (mk k)).aH K ok) _ _ fun o ho => by cases ho) (@aV (fnB w D (bk k) (mk k)) _ _ (aU h _ _) (dL h (q := bk k) hi _)) nK
 constructor
 ·intro hall K ok
  have hall := (iC (D.blk i).st [] (okS D)).2 hall
  refine @cZ _ _ (fun k => fnB w D (bk k) (mk k)) lH _ _ hd _ _ (fun e => by cases e) (D.blk i).st.length (bK q (bk 0) hq _ _) us (fun k hk => step' k hk (hall k hk)) ?_ 3 K ok
  refine bG stop (rg0 _) (bK (bk (D.blk i).st.length) q hq.symm _ _) (L := L3) ?_ (aQ D _ _) (fun p hp => by cases hp) (fun u hu => by cases hu) rfl (bf f lH)
  exact (st _ (Nat.le_refl _)).pin (i := 23) (c := 0) (show b2i (decide (((D.blk i).st.length : Int) < (D.blk i).st.length)) = 0 by rw [decide_eq_false (by omega)]; rfl)
 ·intro hbad K ok
  rcases jl (fun k => okS D (D.stm i k)) (D.blk i).st.length with hall | ⟨N, hN, h0, hn⟩
  ·rw [(iC (D.blk i).st [] (okS D)).1 hall] at hbad
   cases hbad
  ·refine @cZ _ _ (fun k => fnB w D (bk k) (mk k)) lH _ _ hd _ _ (fun e => by cases e) N (bK q (bk 0) hq _ _) us (fun k hk => step' k (by omega) (h0 k hk)) ?_ 3 K ok
   have hn : (dJ.val (D.stm i N) && !far.sF (twos.qX (D.stm i N)) D.ls.length) = false := hn
   cases hv : dJ.val (D.stm i N) with
   | false => exact bG ab1 (rg N hN _ fun K ok o ho => by obtain rfl := List.mem_singleton.1 ho; exact pV N hN false hv K ok) (bK (bk N) q hq.symm _ _) (pin1 N hN) (aQ D _ _) (fun p hp => by cases hp) (fun u hu => by cases hu) rfl (bf f lH)
   | true =>
    rw [hv, Bool.true_and, Bool.not_eq_false'] at hn
    refine bG ajm (rg N hN _ fun K ok o ho => ?_) (bK (bk N) q hq.symm _ _) (pin1 N hN) (aQ D _ _) (fun p hp => by cases hp) (fun u hu => by cases hu) rfl (bf f lH)
    simp only [List.mem_cons, List.not_mem_nil, or_false] at ho
    rcases ho with rfl | rfl | rfl
    ·exact pV N hN true hv K ok
    ·exact pO N hN hv K ok
    ·exact pF N hN true hn K ok
theorem ajc (q : At) (m : List Int) : uj fxB (aF (aJ D q m)) := by
 have h0 := aQ D q m
 refine ⟨fun i c j hh => (by cases hh), ⟨h0.xt.lf, h0.xt.sm, h0.xt.ld, h0.xt.sr, fun i j d hm => ?_⟩⟩
 rcases List.mem_cons.1 (show (i, j, d) ∈ (16, 15, 74) :: eu.xt.eq from hm) with e | hm
 ·cases e
  exact (h0.xt.eq 15 16 74 (List.mem_cons_self ..)).trans ⟨fun e => e.symm, fun e => e.symm⟩
 ·exact h0.xt.eq i j d hm
theorem a95 {i : Nat} (hi : i < D.bs.length) (m : List Int) : ak (@VA (fnB w D (atB i) m) r0) [.g bQ, .g kL] [v, .agg (D.blk i).cells.toArray] := by
 have hc := P9 h hi (atB i) rfl m
 refine ⟨xI h (atB i) m r0, ⟨_, rfl, fC hc.len fun n x u hx hu => ?_⟩, trivial⟩
 obtain ⟨u', hu', e⟩ := ak.nth hc (n := n) (x := x) (by rw [aK]; exact hx)
 rw [hu] at hu'
 cases hu'
 exact e r0
theorem ajq {i : Nat} (m : List Int) : tgE.num (aF (aJ D (atB i) m)) = acG D.bs.length (D.blk i) := by
 have e8 : aF (aJ D (atB i) m) 8 = ah (D.blk i).pre 0 := rfl
 have e72 : aF (aJ D (atB i) m) 72 = b2i (decide (ah (D.blk i).pre 7 < D.bs.length)) := rfl
 have e73 : aF (aJ D (atB i) m) 73 = b2i (decide (ah (D.blk i).pre 8 < D.bs.length)) := rfl
 have e74 : aF (aJ D (atB i) m) 74 = b2i (decide (ah (D.blk i).pre 7 = ah (D.blk i).pre 8)) := rfl
 unfold acG
 simp only [tgE, isE, E.num, List.all_cons, List.all_nil, Bool.and_true, e8, e72, e73, e74, made.fK]
theorem a4Q {i : Nat} (hi : i < D.bs.length) (hB : D.bs.length <= 1000) (hS : (D.blk i).st.length <= 1000) (h1 : 1 <= D.ls.length) (h16 : D.ls.length <= 16) : bF f [v, .agg (D.blk i).cells.toArray] w (.bool (okB D (D.blk i))) := by
 have hj := uq h hi
 let m : List Int := mR (occJump.nN (D.blk i))
 have inn := inner h (i := i) (q := atB i) (m := m) rfl hi hB hS h1 h16
 have hLB : LB.Holds (aF (aJ D (atB i) m)) (fun _ => []) := (twos.eH h (atB i) (gG (by omega)) m).pin (i := 6) (c := 1) (show b2i (decide ((i : Int) < D.bs.length)) = 1 from (bY _).2 (by omega))
 have tb : @aZ (fnB w D (atB i) m) (bW.app iG) := @aV (fnB w D (atB i) m) _ _ (aU h _ _) (dL h (q := atB i) hi _)
 have go : ∀ {l : List aS} {x : X} {s1 : St} {es : List E} {g : List Bool -> V} {hs : HT} {u : Bool}, aI (run l x s1 es g) hs LB = true -> (∀ K (ok : aG K (fnB w D (atB i) m).rho (fnB w D (atB i) m).sig), @aO ((fnB w D (atB i) m).aH K ok) Tryz.prog (row x s1 K) lH) ->
   (∀ K (ok : aG K (fnB w D (atB i) m).rho (fnB w D (atB i) m).sig), ∀ o ∈ l, @Sound ((fnB w D (atB i) m).aH K ok) Tryz.prog o) -> g (es.map (E.num (aF (aJ D (atB i) m)))) = V.s (.bool u) -> bF f [v, .agg (D.blk i).cells.toArray] w (.bool u) := fun {l x s1 es g hs u} hr hl ho e => by
  have hR : jG Tryz.prog (dH (Fp l) (bW.app iG) fun K => dP [(f, row x s1 K)]) (fnB w D (atB i) m) :=
   fG (fun K ok => @jA ((fnB w D (atB i) m).aH K ok) _ _ (ho K ok)) tb (rows_ok (T := fun K => [(f, row x s1 K)]) fun K ok p hp => by
    obtain rfl := List.mem_singleton.1 hp
    exact ⟨F, Tryz.func77, fun c hc => iF tag (hl K ok) hc⟩)
  have := iW (b := fnB w D (atB i) m) (w := w) (Nat.le_refl _) (fun _ _ => rfl) hR hLB (ajc h (atB i) m) (fun p hp => by cases hp) (a95 h hi m) hr
  rw [show (fnB w D (atB i) m).rho = aF (aJ D (atB i) m) from rfl, e] at this
  exact bF.of (b := fnB w D (atB i) m) (v := V.s (.bool u)) (fun r x hx => hx) this
 have pV : ∀ b, zi (D.blk i) = b -> ∀ K (ok : aG K (fnB w D (atB i) m).rho (fnB w D (atB i) m).sig), @Sound ((fnB w D (atB i) m).aH K ok) Tryz.prog (rVJ b) := fun b e =>
  Rn h ⟨_, Tryz.func107, by kernel_rfl, by kernel_rfl⟩ Xg vmB (q := atB i) hi e _
 have pO : zi (D.blk i) = true -> ∀ K (ok : aG K (fnB w D (atB i) m).rho (fnB w D (atB i) m).sig), @Sound ((fnB w D (atB i) m).aH K ok) Tryz.prog rOJ := fun e =>
  Em h ⟨_, Tryz.func82, by kernel_rfl, by kernel_rfl⟩ (occJump.YB h (atB i) rfl _ hi) (by rfl) fun w' hw => occJump.Vb hw hi hB e
 have pF : zi (D.blk i) = true -> ∀ b, far.sF (occJump.nN (D.blk i)) D.ls.length = b -> ∀ K (ok : aG K (fnB w D (atB i) m).rho (fnB w D (atB i) m).sig), @Sound ((fnB w D (atB i) m).aH K ok) Tryz.prog (rF b) := fun e b eb =>
  a09 h (atB i) _ (fun j => by
   have := a01 (D.blk i) (by have := Dw (iD hj) e; omega) j
   omega) h1 h16 eb
 unfold okB
 cases hs : (D.blk i).st.all (okS D) with
 | false => exact go alI (inn.2 hs) (fun K ok o ho => by cases ho) rfl
 | true =>
  rw [Bool.true_and]
  have hl := inn.1 hs
  cases hv : zi (D.blk i) with
  | false => exact go ali hl (fun K ok o ho => by obtain rfl := List.mem_singleton.1 ho; exact pV false hv K ok) rfl
  | true =>
   rw [Bool.true_and]
   cases hf : far.sF (occJump.nN (D.blk i)) D.ls.length with
   | true => exact go akI hl (fun K ok o ho => by
     simp only [List.mem_cons, List.not_mem_nil, or_false] at ho
     rcases ho with rfl | rfl | rfl
     ·exact pV true hv K ok
     ·exact pO hv K ok
     ·exact pF hv true hf K ok) rfl
   | false => exact go abU hl (fun K ok o ho => by
     simp only [List.mem_cons, List.not_mem_nil, or_false] at ho
     rcases ho with rfl | rfl | rfl
     ·exact pV true hv K ok
     ·exact pO hv K ok
     ·exact pF hv false hf K ok) (by
     show V.s (.bool (tgE.num (aF (aJ D (atB i) m)))) = _
     rw [ajq h m]
     rfl)
end
end Go.Proofs.YtglmonlofejcgaaGreatDoor.block
