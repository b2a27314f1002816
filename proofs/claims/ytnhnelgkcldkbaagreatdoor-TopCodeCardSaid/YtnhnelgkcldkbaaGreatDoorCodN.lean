/- Valid places, operands, rvalues, statements and jumps as plain data: their cells, and that a valid one has such cells. In plain words. Two small numbers behind one another: their bytes, and what number.Get makes of them. -/
import Derived.Test.YtnhnelgkcldkbaaGreatDoorLoanP
import Derived.Test.YtnhnelgkcldkbaaGreatDoorTests5
import Derived.Test.YtnhnelgkcldkbaaGreatDoorJump2
import Derived.Test.YtnhnelgkcldkbaaGreatDoorBld
import Derived.Test.YtnhnelgkcldkbaaGreatDoorLoanK
import Derived.Test.YtnhnelgkcldkbaaGreatDoorNumGet
namespace Go.Proofs.YtnhnelgkcldkbaaGreatDoor.enc
open Go.RowKit Go.Proofs.YtnhnelgkcldkbaaGreatDoor Go.Proofs.YtnhnelgkcldkbaaGreatDoor.Am
set_option linter.unusedVariables false
set_option maxRecDepth 100000
structure PlV where
  l : Int
  d : Bool
  f : Int
def PlV.c (p : PlV) : List Value := [.int .i64 p.l, .bool p.d, .int .u8 p.f]
structure PlV.ok (p : PlV) : Prop where
  l0 : 0 ≤ p.l
  l1 : p.l ≤ 15
  f0 : 0 ≤ p.f
  f1 : p.f ≤ 2
inductive OpV where
  | k (n : Int)
  | p (m : Bool) (q : PlV)
def kdM (m : Bool) : Int := if m then 3 else 2
def OpV.c : OpV → List Value
  | .k n => [.int .u8 1, .int .i64 n, .int .i64 0, .bool false, .int .u8 0]
  | .p m q => [.int .u8 (kdM m), .int .i64 0, .int .i64 q.l, .bool q.d, .int .u8 q.f]
def OpV.ok : OpV → Prop
  | .k n => -9223372036854775808 ≤ n ∧ n ≤ 9223372036854775807
  | .p _ q => q.ok
def zO : List Value := [.int .u8 0, .int .i64 0, .int .i64 0, .bool false, .int .u8 0]
def zP : List Value := [.int .i64 0, .bool false, .int .u8 0]
inductive RvV where
  | use (a : OpV)
  | bin (o : Int) (a b : OpV)
  | two (a b : OpV)
  | ref (o : Int) (q : PlV)
  | raw (q : PlV)
def RvV.c : RvV → List Value
  | .use a => .int .u8 1 :: .int .u8 0 :: .int .u8 0 :: (a.c ++ (zO ++ zP))
  | .bin o a b => .int .u8 2 :: .int .u8 o :: .int .u8 0 :: (a.c ++ (b.c ++ zP))
  | .two a b => .int .u8 3 :: .int .u8 0 :: .int .u8 0 :: (a.c ++ (b.c ++ zP))
  | .ref o q => .int .u8 4 :: .int .u8 0 :: .int .u8 o :: (zO ++ (zO ++ q.c))
  | .raw q => .int .u8 5 :: .int .u8 0 :: .int .u8 0 :: (zO ++ (zO ++ q.c))
def RvV.ok : RvV → Prop
  | .use a => a.ok
  | .bin o a b => 1 ≤ o ∧ o ≤ 6 ∧ a.ok ∧ b.ok
  | .two a b => a.ok ∧ b.ok
  | .ref o q => 1 ≤ o ∧ o ≤ 3 ∧ q.ok
  | .raw q => q.ok
def zR : List Value := .int .u8 0 :: .int .u8 0 :: .int .u8 0 :: (zO ++ (zO ++ zP))
inductive StV where
  | asg (q : PlV) (r : RvV)
  | one (m : Bool) (a : OpV)
  | fresh (l : Int)
def kdO (m : Bool) : Int := if m then 4 else 2
def StV.c : StV → List Value
  | .asg q r => .int .u8 1 :: (q.c ++ (r.c ++ (zO ++ [.int .i64 0])))
  | .one m a => .int .u8 (kdO m) :: (zP ++ (zR ++ (a.c ++ [.int .i64 0])))
  | .fresh l => .int .u8 3 :: (zP ++ (zR ++ (zO ++ [.int .i64 l])))
def StV.ok : StV → Prop
  | .asg q r => q.ok ∧ r.ok
  | .one _ a => a.ok
  | .fresh l => 0 ≤ l ∧ l ≤ 15
inductive JmV where
  | go (n : Int)
  | br (a : OpV) (n e : Int)
  | ret
  | abort
  | call (f : Int) (q : PlV) (n : Int)
def JmV.pre : JmV → List Value
  | .go n => .int .u8 1 :: (zO ++ [.int .i64 0, .int .i64 n, .int .i64 0])
  | .br a n e => .int .u8 2 :: (a.c ++ [.int .i64 0, .int .i64 n, .int .i64 e])
  | .ret => .int .u8 3 :: (zO ++ [.int .i64 0, .int .i64 0, .int .i64 0])
  | .abort => .int .u8 5 :: (zO ++ [.int .i64 0, .int .i64 0, .int .i64 0])
  | .call f q n => .int .u8 4 :: (zO ++ [.int .i64 f, .int .i64 n, .int .i64 0])
def JmV.post : JmV → List Value
  | .call f q n => q.c
  | _ => zP
def JmV.ok (ops : List OpV) : JmV → Prop
  | .go n => (0 ≤ n ∧ n ≤ 23) ∧ ops = []
  | .br a n e => (0 ≤ n ∧ n ≤ 23) ∧ (0 ≤ e ∧ e ≤ 23) ∧ a.ok ∧ ops = []
  | .ret => ops = []
  | .abort => ops = []
  | .call f q n => (0 ≤ f ∧ f ≤ 7) ∧ (0 ≤ n ∧ n ≤ 23) ∧ q.ok ∧ ops.length ≤ 8 ∧ ∀ a ∈ ops, a.ok
/-! a valid one has such cells -/
theorem b01 (b : Bool) : ((if b = true then (1 : Int) else 0) = 0) = (b = false) := by cases b <;> simp
theorem cons_of {n : Nat} {us : List Value} (h : us.length = n + 1) : ∃ x r, us = x :: r ∧ r.length = n := by
  cases us with
  | nil => simp at h
  | cons x r => exact ⟨x, r, rfl, by simpa using h⟩
theorem op_of {k n l f : Int} {d : Bool} (n0 : -9223372036854775808 ≤ n) (n1 : n ≤ 9223372036854775807) (f0 : 0 ≤ f) (h : (k = 1 ∧ l = 0 ∧ d = false ∧ f = 0) ∨ ((k = 2 ∨ k = 3) ∧ n = 0 ∧ 0 ≤ l ∧ l < 16 ∧ f < 3)) : ∃ a : OpV, a.ok ∧ [Value.int .u8 k, .int .i64 n, .int .i64 l, .bool d, .int .u8 f] = a.c := by
  rcases h with ⟨rfl, rfl, rfl, rfl⟩ | ⟨rfl | rfl, rfl, h0, h1, h2⟩
  · exact ⟨.k n, ⟨n0, n1⟩, rfl⟩
  · exact ⟨.p false ⟨l, d, f⟩, ⟨h0, show l ≤ 15 by omega, f0, show f ≤ 2 by omega⟩, rfl⟩
  · exact ⟨.p true ⟨l, d, f⟩, ⟨h0, show l ≤ 15 by omega, f0, show f ≤ 2 by omega⟩, rfl⟩
theorem eq2 {α β γ : Type} (f : α → β → γ) {a b : α} {c d : β} (h : a = b) (k : c = d) : f a c = f b d := by rw [h, k]
theorem st_form {us : List Value} (hk : All2 Kd.ok kS26 us) (hv : okStE.val us = true) : ∃ s : StV, s.ok ∧ us = s.c := by
  have hl := hk.len.symm
  obtain ⟨c0, r0, rfl, hl0⟩ := cons_of hl
  obtain ⟨c1, r1, rfl, hl1⟩ := cons_of hl0
  obtain ⟨c2, r2, rfl, hl2⟩ := cons_of hl1
  obtain ⟨c3, r3, rfl, hl3⟩ := cons_of hl2
  obtain ⟨c4, r4, rfl, hl4⟩ := cons_of hl3
  obtain ⟨c5, r5, rfl, hl5⟩ := cons_of hl4
  obtain ⟨c6, r6, rfl, hl6⟩ := cons_of hl5
  obtain ⟨c7, r7, rfl, hl7⟩ := cons_of hl6
  obtain ⟨c8, r8, rfl, hl8⟩ := cons_of hl7
  obtain ⟨c9, r9, rfl, hl9⟩ := cons_of hl8
  obtain ⟨c10, r10, rfl, hl10⟩ := cons_of hl9
  obtain ⟨c11, r11, rfl, hl11⟩ := cons_of hl10
  obtain ⟨c12, r12, rfl, hl12⟩ := cons_of hl11
  obtain ⟨c13, r13, rfl, hl13⟩ := cons_of hl12
  obtain ⟨c14, r14, rfl, hl14⟩ := cons_of hl13
  obtain ⟨c15, r15, rfl, hl15⟩ := cons_of hl14
  obtain ⟨c16, r16, rfl, hl16⟩ := cons_of hl15
  obtain ⟨c17, r17, rfl, hl17⟩ := cons_of hl16
  obtain ⟨c18, r18, rfl, hl18⟩ := cons_of hl17
  obtain ⟨c19, r19, rfl, hl19⟩ := cons_of hl18
  obtain ⟨c20, r20, rfl, hl20⟩ := cons_of hl19
  obtain ⟨c21, r21, rfl, hl21⟩ := cons_of hl20
  obtain ⟨c22, r22, rfl, hl22⟩ := cons_of hl21
  obtain ⟨c23, r23, rfl, hl23⟩ := cons_of hl22
  obtain ⟨c24, r24, rfl, hl24⟩ := cons_of hl23
  obtain ⟨c25, r25, rfl, hl25⟩ := cons_of hl24
  obtain rfl := List.eq_nil_of_length_eq_zero hl25
  obtain ⟨g0, g1, g2, g3, g4, g5, g6, g7, g8, g9, g10, g11, g12, g13, g14, g15, g16, g17, g18, g19, g20, g21, g22, g23, g24, g25, _⟩ := hk
  obtain ⟨k, rfl, k0, k1⟩ := g0
  obtain ⟨l, rfl, l0, l1⟩ := g1
  obtain ⟨d, rfl⟩ := g2
  obtain ⟨f, rfl, f0, f1⟩ := g3
  obtain ⟨rk, rfl, rk0, rk1⟩ := g4
  obtain ⟨ro, rfl, ro0, ro1⟩ := g5
  obtain ⟨rb, rfl, rb0, rb1⟩ := g6
  obtain ⟨ak, rfl, ak0, ak1⟩ := g7
  obtain ⟨an, rfl, an0, an1⟩ := g8
  obtain ⟨al, rfl, al0, al1⟩ := g9
  obtain ⟨ad, rfl⟩ := g10
  obtain ⟨af, rfl, af0, af1⟩ := g11
  obtain ⟨bk, rfl, bk0, bk1⟩ := g12
  obtain ⟨bn, rfl, bn0, bn1⟩ := g13
  obtain ⟨bl, rfl, bl0, bl1⟩ := g14
  obtain ⟨bd, rfl⟩ := g15
  obtain ⟨bf, rfl, bf0, bf1⟩ := g16
  obtain ⟨pl, rfl, pl0, pl1⟩ := g17
  obtain ⟨pd, rfl⟩ := g18
  obtain ⟨pf, rfl, pf0, pf1⟩ := g19
  obtain ⟨ok, rfl, ok0, ok1⟩ := g20
  obtain ⟨on, rfl, on0, on1⟩ := g21
  obtain ⟨ol, rfl, ol0, ol1⟩ := g22
  obtain ⟨od, rfl⟩ := g23
  obtain ⟨of, rfl, of0, of1⟩ := g24
  obtain ⟨lo, rfl, lo0, lo1⟩ := g25
  simp [okStE, okRvE, okOpE, okPlE, zs, List.range, List.range.loop, E.ands, E.val, cellI, codeI] at hv
  clear hl hl0 hl1 hl2 hl3 hl4 hl5 hl6 hl7 hl8 hl9 hl10 hl11 hl12 hl13 hl14 hl15 hl16 hl17 hl18 hl19 hl20 hl21 hl22 hl23 hl24 hl25
  rcases hv with ⟨rfl, ⟨p0, p1, p2⟩, hr, ⟨rfl, rfl, rfl, rfl, rfl⟩, rfl⟩ | ⟨hk, ⟨rfl, rfl, rfl⟩, ⟨rfl, rfl, rfl, rfl, rfl, rfl, rfl, rfl, rfl, rfl, rfl, rfl, rfl, rfl, rfl, rfl⟩, ho, rfl⟩ | ⟨rfl, ⟨rfl, rfl, rfl⟩, ⟨rfl, rfl, rfl, rfl, rfl, rfl, rfl, rfl, rfl, rfl, rfl, rfl, rfl, rfl, rfl, rfl⟩, ⟨rfl, rfl, rfl, rfl, rfl⟩, h0, h1⟩
  · have hp : (PlV.mk l d f).ok := ⟨p0, show l ≤ 15 by omega, f0, show f ≤ 2 by omega⟩
    rcases hr with ⟨rfl, ha, ⟨rfl, rfl, rfl, rfl, rfl⟩, ⟨rfl, rfl, rfl⟩, rfl, rfl⟩ | ⟨rfl, ha, hb, ⟨rfl, rfl, rfl⟩, h1, h2, rfl⟩ | ⟨rfl, ha, hb, ⟨rfl, rfl, rfl⟩, rfl, rfl⟩ | ⟨rfl, ⟨rfl, rfl, rfl, rfl, rfl⟩, ⟨rfl, rfl, rfl, rfl, rfl⟩, ⟨h1, h2, h3⟩, rfl, h4, h5⟩ | ⟨rfl, ⟨rfl, rfl, rfl, rfl, rfl⟩, ⟨rfl, rfl, rfl, rfl, rfl⟩, ⟨h1, h2, h3⟩, rfl, rfl⟩
    · obtain ⟨a, ka, ea⟩ := op_of an0 an1 af0 ha
      exact ⟨.asg ⟨l, d, f⟩ (.use a), ⟨hp, ka⟩, congrArg (fun x => Value.int .u8 1 :: (PlV.c ⟨l, d, f⟩ ++ ((.int .u8 1 :: .int .u8 0 :: .int .u8 0 :: (x ++ (zO ++ zP))) ++ (zO ++ [.int .i64 0])))) ea⟩
    · obtain ⟨a, ka, ea⟩ := op_of an0 an1 af0 ha
      obtain ⟨b, kb, eb⟩ := op_of bn0 bn1 bf0 hb
      exact ⟨.asg ⟨l, d, f⟩ (.bin ro a b), ⟨hp, h1, by omega, ka, kb⟩, eq2 (fun x y => Value.int .u8 1 :: (PlV.c ⟨l, d, f⟩ ++ ((.int .u8 2 :: .int .u8 ro :: .int .u8 0 :: (x ++ (y ++ zP))) ++ (zO ++ [.int .i64 0])))) ea eb⟩
    · obtain ⟨a, ka, ea⟩ := op_of an0 an1 af0 ha
      obtain ⟨b, kb, eb⟩ := op_of bn0 bn1 bf0 hb
      exact ⟨.asg ⟨l, d, f⟩ (.two a b), ⟨hp, ka, kb⟩, eq2 (fun x y => Value.int .u8 1 :: (PlV.c ⟨l, d, f⟩ ++ ((.int .u8 3 :: .int .u8 0 :: .int .u8 0 :: (x ++ (y ++ zP))) ++ (zO ++ [.int .i64 0])))) ea eb⟩
    · exact ⟨.asg ⟨l, d, f⟩ (.ref rb ⟨pl, pd, pf⟩), ⟨hp, h4, by omega, h1, show pl ≤ 15 by omega, pf0, show pf ≤ 2 by omega⟩, rfl⟩
    · exact ⟨.asg ⟨l, d, f⟩ (.raw ⟨pl, pd, pf⟩), ⟨hp, h1, show pl ≤ 15 by omega, pf0, show pf ≤ 2 by omega⟩, rfl⟩
  · obtain ⟨a, ka, ea⟩ := op_of on0 on1 of0 ho
    rcases hk with rfl | rfl
    · exact ⟨.one false a, ka, congrArg (fun x => Value.int .u8 2 :: (zP ++ (zR ++ (x ++ [.int .i64 0])))) ea⟩
    · exact ⟨.one true a, ka, congrArg (fun x => Value.int .u8 4 :: (zP ++ (zR ++ (x ++ [.int .i64 0])))) ea⟩
  · exact ⟨.fresh lo, ⟨h0, by omega⟩, rfl⟩
end Go.Proofs.YtnhnelgkcldkbaaGreatDoor.enc
namespace Go.Proofs.YtnhnelgkcldkbaaGreatDoor.enc
open Go.RowKit Go.Proofs.YtnhnelgkcldkbaaGreatDoor Go.Proofs.YtnhnelgkcldkbaaGreatDoor.Am Go.Proofs.YtnhnelgkcldkbaaGreatDoor.loan Go.Proofs.YtnhnelgkcldkbaaGreatDoor.bld
set_option linter.unusedVariables false
theorem put_at {n : Int} (h1 : n < 128) : Num.put n = [n] := Num.put_small n h1
theorem get_one {x y : Int} (x0 : 0 ≤ x) (x1 : x < 128) : Num.get [x, y] 0 = (x, 1, 0) := by
  have h := Num.get_put [] [y] x x0 (by omega)
  rw [put_at x1] at h
  exact h
theorem get_two {x y : Int} (y0 : 0 ≤ y) (y1 : y < 128) : Num.get [x, y] 1 = (y, 2, 0) := by
  have h := Num.get_put [x] [] y y0 (by omega)
  rw [put_at y1] at h
  exact h
end Go.Proofs.YtnhnelgkcldkbaaGreatDoor.enc
