/- Texts that are read as places: the 96 texts, and all others. -/
import Derived.Test.YtncbkjokabgkbaaDoorLe
import Derived.Test.YtncbkjokabgkbaaDoorPlaceT
import Derived.Test.YtncbkjokabgkbaaDoorAmRow
namespace Go.Proofs.YtncbkjokabgkbaaDoor.Am
open Go.RowKit
set_option maxRecDepth 100000
set_option linter.unusedSectionVars false

/-! strings that are not written out, cut -/
theorem bytes_list (l : List UInt8) : (⟨l.toArray⟩ : ByteArray).data.toList = l := by simp
/-- what strings.CutPrefix tells -/
def cutP (l p : List UInt8) : List UInt8 × Bool := (Lib.trimPrefix l p, Lib.hasPrefix l p)
def cutS (l p : List UInt8) : List UInt8 × Bool := (Lib.trimSuffix l p, Lib.hasSuffix l p)
/-- rows: which strings and numbers a call comes to -/
structure CRow where
  f : FuncId
  s : Nat
  p : List UInt8
  r : Nat
  b : Nat
def cutG (T : List CRow) (f : FuncId) (args : List A) : Option V := match args with
  | [.s (.xs [a]), .s (.str p)] => (T.find? fun r => Nat.beq r.f f && Nat.beq (256 + r.s) a && sameX (r.p.map UInt8.toNat) (p.map UInt8.toNat)).map fun r => .t [.s (.xs [256 + r.r]), .s (.xe [(r.b, 1)])]
  | _ => none
noncomputable def cutPO (T : List CRow) : Oracle := pureO 61 (cutG T 61)
noncomputable def cutSO (T : List CRow) : Oracle := pureO 62 (cutG T 62)
def boolI (b : Bool) : Int := bif b then 1 else 0
structure CutOk (rho : Nat → Int) (sig : Nat → List UInt8) (T : List CRow) : Prop where
  p : ∀ r ∈ T, r.f = 61 → sig r.r = (cutP (sig r.s) r.p).1 ∧ rho r.b = boolI (cutP (sig r.s) r.p).2
  s : ∀ r ∈ T, r.f = 62 → sig r.r = (cutS (sig r.s) r.p).1 ∧ rho r.b = boolI (cutS (sig r.s) r.p).2
  len : ∀ r ∈ T, (sig r.s).length ≤ 1000
theorem boolI_eq (b : Bool) : decide (boolI b = 1) = b := by cases b <;> rfl
theorem cutG_some {T : List CRow} {f : FuncId} {args : List A} {v : V} (h : cutG T f args = some v) : ∃ r ∈ T, r.f = f ∧ args = [.s (.xs [256 + r.s]), .s (.str r.p)] ∧ v = .t [.s (.xs [256 + r.r]), .s (.xe [(r.b, 1)])] := by
  unfold cutG at h
  split at h
  · rename_i a p
    cases hf : (T.find? fun r => Nat.beq r.f f && Nat.beq (256 + r.s) a && sameX (r.p.map UInt8.toNat) (p.map UInt8.toNat)) with
    | none => rw [hf] at h; cases h
    | some r =>
      rw [hf] at h
      cases h
      have hp := List.find?_some hf
      simp only [Bool.and_eq_true] at hp
      refine ⟨r, List.mem_of_find?_eq_some hf, Nat.eq_of_beq_eq_true hp.1.1, ?_, rfl⟩
      rw [← Nat.eq_of_beq_eq_true hp.1.2, u8s_inj (same0 hp.2)]
  · cases h
section
variable {w0 : World} {K : Know} {rho : Nat → Int} {sig : Nat → List UInt8} (ok : KnowOk K rho sig) {T : List CRow}
theorem sound_cutP (hT : CutOk rho sig T) : @Sound (base0 w0 ok) Tryd.prog (cutPO T) := by
  letI : Base := base0 w0 ok
  refine sound_pure ⟨_, Tryd.func61, by kernel_rfl, by kernel_rfl⟩ fun args v hg r vs ha w _ => ?_
  obtain ⟨q, hq, hf, rfl, rfl⟩ := cutG_some hg
  obtain ⟨u, u', rfl, hu, hu'⟩ := all2_two ha
  have hu : u = .string ⟨(strX sig [256 + q.s]).toArray⟩ := hu
  have hu' : u' = .string ⟨q.p.toArray⟩ := hu'
  subst hu hu'
  obtain ⟨h1, h2⟩ := hT.p q hq hf
  refine (Tryd.strings_CutPrefix _ _ w).mono fun e w' ⟨e1, e2⟩ => ⟨_, e1, ⟨_, rfl, ?_, ?_, trivial⟩, by rw [e2]; exact Below.refl _ _⟩
  · show Value.string _ = .string ⟨(strX sig [256 + q.r]).toArray⟩
    rw [strX_one, strX_one, h1, bytes_list, bytes_list]
    rfl
  · show Value.bool _ = .bool ([(q.b, (1 : Int))].any fun p => decide (rho p.1 = p.2))
    simp only [List.any_cons, List.any_nil, Bool.or_false]
    rw [h2, boolI_eq, strX_one]
    rfl
theorem sound_cutS (hT : CutOk rho sig T) : @Sound (base0 w0 ok) Tryd.prog (cutSO T) := by
  letI : Base := base0 w0 ok
  refine sound_pure ⟨_, Tryd.func62, by kernel_rfl, by kernel_rfl⟩ fun args v hg r vs ha w _ => ?_
  obtain ⟨q, hq, hf, rfl, rfl⟩ := cutG_some hg
  obtain ⟨u, u', rfl, hu, hu'⟩ := all2_two ha
  have hu : u = .string ⟨(strX sig [256 + q.s]).toArray⟩ := hu
  have hu' : u' = .string ⟨q.p.toArray⟩ := hu'
  subst hu hu'
  obtain ⟨h1, h2⟩ := hT.s q hq hf
  have hlen := hT.len q hq
  refine (Tryd.strings_CutSuffix _ _ w (by rw [strX_one]; show (sig q.s).toArray.size ≤ _; simp; omega)).mono fun e w' ⟨e1, e2⟩ => ⟨_, e1, ⟨_, rfl, ?_, ?_, trivial⟩, by rw [e2]; exact Below.refl _ _⟩
  · show Value.string _ = .string ⟨(strX sig [256 + q.r]).toArray⟩
    rw [strX_one, strX_one, h1, bytes_list, bytes_list]
    rfl
  · show Value.bool _ = .bool ([(q.b, (1 : Int))].any fun p => decide (rho p.1 = p.2))
    simp only [List.any_cons, List.any_nil, Bool.or_false]
    rw [h2, boolI_eq, strX_one]
    rfl
/-- rows of Atoi: the string, the number, whether it is one -/
structure ARow where
  s : Nat
  n : Nat
  b : Nat
/-- what Atoi tells of any text -/
def atoiN (l : List UInt8) : Int := match Lib.atoiAll l with | .ok v => v | .range => Lib.atoiSat l | _ => 0
def atoiB (l : List UInt8) : Bool := match Lib.atoiAll l with | .ok _ => true | _ => false
structure AtoiOk (rho : Nat → Int) (sig : Nat → List UInt8) (T : List ARow) : Prop where
  n : ∀ r ∈ T, rho r.n = atoiN (sig r.s)
  b : ∀ r ∈ T, rho r.b = boolI (atoiB (sig r.s))
  len : ∀ r ∈ T, (sig r.s).length ≤ 1000
noncomputable def atoiXG [Know] (T : List ARow) (args : List A) : Option V := match args with
  | [.s (.xs [a])] => ob (T.find? fun r => Nat.beq (256 + r.s) a) fun r => ob (eqC r.b 1) fun c => some (.t [.s (.xi .i64 r.n), .s (bif c then .nili else .ifc)])
  | _ => none
noncomputable def atoiXO (K : Know) (T : List ARow) : Oracle := pureO 63 (@atoiXG K T)
theorem sound_atoiX (k : ErrOk w0) {T : List ARow} (hT : AtoiOk rho sig T) : @Sound (base0 w0 ok) Tryd.prog (atoiXO K T) := by
  letI : Base := base0 w0 ok
  refine sound_pure ⟨_, Tryd.func63, by kernel_rfl, by kernel_rfl⟩ fun args v hg r vs ha w hw => ?_
  unfold atoiXG at hg
  split at hg
  · rename_i a
    obtain ⟨q, hq, hg⟩ := ob_some hg
    obtain ⟨c, hc, hg⟩ := ob_some hg
    cases hg
    have hqa : 256 + q.s = a := Nat.eq_of_beq_eq_true (List.find?_some (p := fun r : ARow => Nat.beq (256 + r.s) a) hq)
    have hqm := List.mem_of_find?_eq_some hq
    subst hqa
    obtain ⟨u, rfl, hu⟩ := all2_one ha
    have hu : u = .string ⟨(strX sig [256 + q.s]).toArray⟩ := hu
    rw [strX_one] at hu
    subst hu
    have hc : c = decide (rho q.b = 1) := by
      obtain ⟨p, hp, hc⟩ := ob_some hc
      have := ok.iv _ _ hp
      cases h1 : (decide ((1 : Int) < p.1) || decide (p.2 < 1)) <;> rw [h1] at hc <;> simp only [cond_true, cond_false] at hc
      · cases h2 : (decide (p.1 = 1) && decide (p.2 = 1)) <;> rw [h2] at hc <;> cases hc
        simp only [Bool.and_eq_true, decide_eq_true_eq] at h2
        exact (decide_eq_true (by omega)).symm
      · cases hc
        simp only [Bool.or_eq_true, decide_eq_true_eq] at h1
        exact (decide_eq_false (by omega)).symm
    have hn := hT.n q hqm
    have hb := hT.b q hqm
    have hlen := hT.len q hqm
    have hs : (⟨(sig q.s).toArray⟩ : ByteArray).size ≤ 1000 := by show (sig q.s).toArray.size ≤ _; simpa using hlen
    obtain ⟨t1, p1, c1⟩ := k.syn
    obtain ⟨t2, p2, c2⟩ := k.rng
    rw [← cell0 hw _ _ (by decide)] at c1 c2
    have hl : (⟨(sig q.s).toArray⟩ : ByteArray).data.toList = sig q.s := by simp
    rw [hb, boolI_eq] at hc
    cases hv : Lib.atoiAll (sig q.s) with
    | ok v =>
      have e1 : atoiN (sig q.s) = v := by simp [atoiN, hv]
      have e2 : atoiB (sig q.s) = true := by simp [atoiB, hv]
      rw [e2] at hc
      subst hc
      refine (Tryd.strconv_Atoi_ok _ (by omega) v (by rw [hl]; exact hv) w).mono fun e w' ⟨k1, k2⟩ => ⟨_, k1, ⟨_, rfl, ?_, rfl, trivial⟩, ?_⟩
      · show Value.int .i64 v = .int .i64 (rho q.n)
        rw [hn, e1]
      · rcases k2 with rfl | ⟨t, rfl⟩
        · exact Below.refl _ _
        · exact ⟨rfl, rfl, rfl, by rw [Lib.bytesWorld_size]; omega, fun k hk => Lib.bytesWorld_at_old w 5 t k (by omega)⟩
    | range =>
      have e1 : atoiN (sig q.s) = Lib.atoiSat (sig q.s) := by simp [atoiN, hv]
      have e2 : atoiB (sig q.s) = false := by simp [atoiB, hv]
      rw [e2] at hc
      subst hc
      refine (Tryd.strconv_Atoi_range _ (by omega) (by rw [hl]; exact hv) _ w c2 (.inr ⟨_, _, rfl⟩)).mono fun e w' ⟨N, k1, _, _, k2⟩ => ⟨_, k1, ⟨_, rfl, ?_, ⟨_, _, rfl⟩, trivial⟩, k2⟩
      show Value.int .i64 _ = .int .i64 (rho q.n)
      rw [hn, e1, hl]
    | _ =>
      have e1 : atoiN (sig q.s) = 0 := by simp [atoiN, hv]
      have e2 : atoiB (sig q.s) = false := by simp [atoiB, hv]
      rw [e2] at hc
      subst hc
      refine (Tryd.strconv_Atoi_syntax _ (by omega) (by rw [hl, hv]; rfl) _ w c1 (.inr ⟨_, _, rfl⟩)).mono fun e w' ⟨N, k1, _, _, k2⟩ => ⟨_, k1, ⟨_, rfl, ?_, ⟨_, _, rfl⟩, trivial⟩, k2⟩
      show Value.int .i64 0 = .int .i64 (rho q.n)
      rw [hn, e1]
  · cases hg
end
end Go.Proofs.YtncbkjokabgkbaaDoor.Am
