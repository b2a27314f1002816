/- place.Read of a place's text: closed runs at the 96 texts. -/
import Derived.Test.YtnhnelgkcldkbaaGreatDoorCodS
import Derived.Test.YtnhnelgkcldkbaaGreatDoorPlaceU
import Derived.Test.YtnhnelgkcldkbaaGreatDoorLb
import Derived.Test.YtnhnelgkcldkbaaGreatDoorShelfA
namespace Go.Proofs.YtnhnelgkcldkbaaGreatDoor.enc
open Go.RowKit Go.Proofs.YtnhnelgkcldkbaaGreatDoor Go.Proofs.YtnhnelgkcldkbaaGreatDoor.Am Go.Proofs.YtnhnelgkcldkbaaGreatDoor.loan Go.Proofs.YtnhnelgkcldkbaaGreatDoor.bld
set_option linter.unusedVariables false
/-- strconv.Atoi of short numerals that are written out -/
noncomputable def atoiLG (args : List A) : Option V := match args with
  | [.s (.str s)] => bif Nat.ble s.length 18 then (match Lib.atoi s with
    | some v => some (.t [.s (.int .i64 v), .s .nili])
    | none => none) else none
  | _ => none
noncomputable def atoiL : Oracle := pureO 71 atoiLG
noncomputable def rdO : Oracle := fun f a h fl => orR (numO f a h fl) (atoiL f a h fl)
section
variable {w0 : World} {K : Know} {rho : Nat → Int} {sig : Nat → List UInt8} (ok : KnowOk K rho sig)
theorem sound_atoiL : @Sound (base0 w0 ok) Tryz.prog atoiL := by
  letI : Base := base0 w0 ok
  refine sound_pure ⟨_, Tryz.func71, by kernel_rfl, by kernel_rfl⟩ fun args v hg r vs ha w hw => ?_
  unfold atoiLG at hg
  split at hg
  · rename_i s
    obtain ⟨u, rfl, hu⟩ := all2_one ha
    cases hu
    cases hi : Nat.ble s.length 18 with
    | false => rw [hi] at hg; cases hg
    | true =>
      rw [hi] at hg
      have hs : (⟨s.toArray⟩ : ByteArray).size ≤ 18 := by
        show s.toArray.size ≤ _
        simpa using Nat.le_of_ble_eq_true hi
      simp only [cond_true] at hg
      split at hg <;> rename_i hv <;> cases hg
      refine (Tryz.strconv_Atoi ⟨s.toArray⟩ _ hs (by simpa using hv) w).mono fun e w' ⟨e1, e2⟩ => ⟨_, e1, ⟨_, rfl, rfl, rfl, trivial⟩, ?_⟩
      obtain ⟨t, rfl⟩ := e2
      exact ⟨rfl, rfl, rfl, by rw [Lib.bytesWorld_size]; omega, fun k hk => Lib.bytesWorld_at_old w 5 t k (by omega)⟩
  · cases hg
theorem sound_rd (k : TabOk w0) : @Sound (base0 w0 ok) Tryz.prog rdO := @sound_or (base0 w0 ok) _ _ _ (sound_num ok k) (sound_atoiL ok)
end
noncomputable def rdAt (p : Nat × Bool × Nat) : Bool := sayV (.t [.g (plS p), .s (.int .i64 0)]) (@runs Know.nought (tyOf Tryz.prog) (fnOf Tryz.prog) rdO 100 20 24 [.s (.str (placeT p.1 p.2.1 p.2.2))] ⟨[], 0⟩ 0)
theorem rd0 : ((pl96.drop 0).take 4).all rdAt = true := by kernel_rfl
theorem rd4 : ((pl96.drop 4).take 4).all rdAt = true := by kernel_rfl
theorem rd8 : ((pl96.drop 8).take 4).all rdAt = true := by kernel_rfl
theorem rd12 : ((pl96.drop 12).take 4).all rdAt = true := by kernel_rfl
theorem rd16 : ((pl96.drop 16).take 4).all rdAt = true := by kernel_rfl
theorem rd20 : ((pl96.drop 20).take 4).all rdAt = true := by kernel_rfl
theorem rd24 : ((pl96.drop 24).take 4).all rdAt = true := by kernel_rfl
theorem rd28 : ((pl96.drop 28).take 4).all rdAt = true := by kernel_rfl
theorem rd32 : ((pl96.drop 32).take 4).all rdAt = true := by kernel_rfl
theorem rd36 : ((pl96.drop 36).take 4).all rdAt = true := by kernel_rfl
theorem rd40 : ((pl96.drop 40).take 4).all rdAt = true := by kernel_rfl
theorem rd44 : ((pl96.drop 44).take 4).all rdAt = true := by kernel_rfl
theorem rd48 : ((pl96.drop 48).take 4).all rdAt = true := by kernel_rfl
theorem rd52 : ((pl96.drop 52).take 4).all rdAt = true := by kernel_rfl
theorem rd56 : ((pl96.drop 56).take 4).all rdAt = true := by kernel_rfl
theorem rd60 : ((pl96.drop 60).take 4).all rdAt = true := by kernel_rfl
theorem rd64 : ((pl96.drop 64).take 4).all rdAt = true := by kernel_rfl
theorem rd68 : ((pl96.drop 68).take 4).all rdAt = true := by kernel_rfl
theorem rd72 : ((pl96.drop 72).take 4).all rdAt = true := by kernel_rfl
theorem rd76 : ((pl96.drop 76).take 4).all rdAt = true := by kernel_rfl
theorem rd80 : ((pl96.drop 80).take 4).all rdAt = true := by kernel_rfl
theorem rd84 : ((pl96.drop 84).take 4).all rdAt = true := by kernel_rfl
theorem rd88 : ((pl96.drop 88).take 4).all rdAt = true := by kernel_rfl
theorem rd92 : ((pl96.drop 92).take 4).all rdAt = true := by kernel_rfl
theorem pl_cut : pl96 = ((pl96.drop 0).take 4) ++ (((pl96.drop 4).take 4) ++ (((pl96.drop 8).take 4) ++ (((pl96.drop 12).take 4) ++ (((pl96.drop 16).take 4) ++ (((pl96.drop 20).take 4) ++ (((pl96.drop 24).take 4) ++ (((pl96.drop 28).take 4) ++ (((pl96.drop 32).take 4) ++ (((pl96.drop 36).take 4) ++ (((pl96.drop 40).take 4) ++ (((pl96.drop 44).take 4) ++ (((pl96.drop 48).take 4) ++ (((pl96.drop 52).take 4) ++ (((pl96.drop 56).take 4) ++ (((pl96.drop 60).take 4) ++ (((pl96.drop 64).take 4) ++ (((pl96.drop 68).take 4) ++ (((pl96.drop 72).take 4) ++ (((pl96.drop 76).take 4) ++ (((pl96.drop 80).take 4) ++ (((pl96.drop 84).take 4) ++ (((pl96.drop 88).take 4) ++ (((pl96.drop 92).take 4)))))))))))))))))))))))) := by decide
theorem rd_all : pl96.all rdAt = true := by
  rw [pl_cut]
  simp only [List.all_append, rd0, rd4, rd8, rd12, rd16, rd20, rd24, rd28, rd32, rd36, rd40, rd44, rd48, rd52, rd56, rd60, rd64, rd68, rd72, rd76, rd80, rd84, rd88, rd92, Bool.and_self]
theorem read_c {q : PlV} (h : q.ok) {W : World} (k : TabOk W) : Calls Tryz.prog 24 #[.string ⟨(placeT q.l q.d q.f).toArray⟩] W (bld.Ans W (.tuple #[.agg q.c.toArray, .int .i64 0])) := by
  obtain ⟨l, d, f⟩ := q
  obtain ⟨h0, h1, h2, h3⟩ := h
  simp only at h0 h1 h2 h3
  obtain ⟨l, rfl⟩ := Int.eq_ofNat_of_zero_le h0
  obtain ⟨f, rfl⟩ := Int.eq_ofNat_of_zero_le h2
  have hm : (l, d, f) ∈ pl96 := by
    unfold pl96
    refine List.mem_flatMap.2 ⟨l, List.mem_range.2 (by omega), List.mem_flatMap.2 ⟨d, by cases d <;> simp, List.mem_map.2 ⟨f, List.mem_range.2 (by omega), rfl⟩⟩⟩
  have hr := List.all_eq_true.1 rd_all _ hm
  unfold rdAt at hr
  obtain ⟨h', hr⟩ := sayV_some hr
  have ok := kn0
  letI : Base := base0 W ok
  refine (calls_flat W k.size (fun _ _ => rfl) (sound_runs ok (sound_rd ok k) 100 20) (args := [.s (.str (placeT (l : Int) d (f : Int)))]) (vs := [.string ⟨(placeT (l : Int) d (f : Int)).toArray⟩]) ⟨rfl, trivial⟩ hr).mono fun e w' ⟨u, r', k1, k2, k3⟩ => ⟨?_, k3⟩
  rw [k1]
  obtain ⟨us, rfl, k2⟩ := k2
  match us, k2 with
  | [a, b], ⟨⟨gs, ha, e1⟩, e2, _⟩ =>
    match gs, ha, e1 with
    | [a1, a2, a3], ha, ⟨e1, e2', e3, _⟩ =>
      have e1 : a1 = _ := e1
      have e2' : a2 = _ := e2'
      have e3 : a3 = _ := e3
      have e2 : b = _ := e2
      rw [ha, e1, e2', e3, e2]
      rfl
end Go.Proofs.YtnhnelgkcldkbaaGreatDoor.enc
