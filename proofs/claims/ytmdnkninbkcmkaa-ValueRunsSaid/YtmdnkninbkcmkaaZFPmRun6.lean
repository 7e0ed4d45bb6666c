/- The run of a program: a state is copied.
   No condition: plain lemmas. -/

import Derived.Test.YtmdnkninbkcmkaaZFPmRun5
namespace Pm
set_option linter.unusedSimpArgs false
set_option linter.unusedVariables false
open Go Am
open Go.Proofs.Try (prog)

theorem acc_cell {e b n : Nat} {H : Heap} {x : Value} {cs : List Value} (ha : Acc e b H x n cs) : cellsOf x = some [x] := by
  rcases ha with ⟨h1, _⟩ | ⟨id, ver, h1, _⟩ <;> rw [h1] <;> rfl
theorem setAll_all {z vs : List Value} (h : vs.length = z.length) : setAll z 0 vs = vs := by
  rw [setAll_over _ _ _ (by omega)]
  unfold over
  rw [List.take_zero, List.nil_append, List.drop_eq_nil_of_le (by omega), List.append_nil]
/-- A state's cells, one by one. -/
def mx (p : Prog) (a7 a8 a9 a10 a11 a12 a13 a14 a15 a16 a17 a18 : Value) : List Value := vProg p ++ [a7, a8, a9, a10, a11, a12, a13, a14, a15, a16, a17, a18]
section
variable {p : Prog} {s : MS} {x a7 a8 a9 a10 a11 a12 a13 a14 a15 a16 a17 a18 : Value}
theorem mx_of : vSt p s = mx p (vL vI s.at_) (vL vI s.g.began) (vL (vL vI) s.r) (vL vI s.g.vars) (vL vI s.g.atoms) (vL vI s.g.locks) (vL (vL vI) s.g.queue) (vL vI s.g.closed) (vL vI s.g.groups) (vL vI s.g.onces) (vL vI s.g.told) (vI s.g.trap) := rfl
theorem mx_len : (mx p a7 a8 a9 a10 a11 a12 a13 a14 a15 a16 a17 a18).length = 19 := rfl
theorem mx_take : List.take 19 (mx p a7 a8 a9 a10 a11 a12 a13 a14 a15 a16 a17 a18) = mx p a7 a8 a9 a10 a11 a12 a13 a14 a15 a16 a17 a18 := rfl
theorem mx_s7 : setAll (mx p a7 a8 a9 a10 a11 a12 a13 a14 a15 a16 a17 a18) 7 [x] = mx p x a8 a9 a10 a11 a12 a13 a14 a15 a16 a17 a18 := Eq.trans rfl rfl
theorem mx_g7 : (mx p a7 a8 a9 a10 a11 a12 a13 a14 a15 a16 a17 a18)[7]? = some a7 := Eq.trans rfl rfl
theorem mx_s8 : setAll (mx p a7 a8 a9 a10 a11 a12 a13 a14 a15 a16 a17 a18) 8 [x] = mx p a7 x a9 a10 a11 a12 a13 a14 a15 a16 a17 a18 := Eq.trans rfl rfl
theorem mx_g8 : (mx p a7 a8 a9 a10 a11 a12 a13 a14 a15 a16 a17 a18)[8]? = some a8 := Eq.trans rfl rfl
theorem mx_s9 : setAll (mx p a7 a8 a9 a10 a11 a12 a13 a14 a15 a16 a17 a18) 9 [x] = mx p a7 a8 x a10 a11 a12 a13 a14 a15 a16 a17 a18 := Eq.trans rfl rfl
theorem mx_g9 : (mx p a7 a8 a9 a10 a11 a12 a13 a14 a15 a16 a17 a18)[9]? = some a9 := Eq.trans rfl rfl
theorem mx_s10 : setAll (mx p a7 a8 a9 a10 a11 a12 a13 a14 a15 a16 a17 a18) 10 [x] = mx p a7 a8 a9 x a11 a12 a13 a14 a15 a16 a17 a18 := Eq.trans rfl rfl
theorem mx_g10 : (mx p a7 a8 a9 a10 a11 a12 a13 a14 a15 a16 a17 a18)[10]? = some a10 := Eq.trans rfl rfl
theorem mx_s11 : setAll (mx p a7 a8 a9 a10 a11 a12 a13 a14 a15 a16 a17 a18) 11 [x] = mx p a7 a8 a9 a10 x a12 a13 a14 a15 a16 a17 a18 := Eq.trans rfl rfl
theorem mx_g11 : (mx p a7 a8 a9 a10 a11 a12 a13 a14 a15 a16 a17 a18)[11]? = some a11 := Eq.trans rfl rfl
theorem mx_s12 : setAll (mx p a7 a8 a9 a10 a11 a12 a13 a14 a15 a16 a17 a18) 12 [x] = mx p a7 a8 a9 a10 a11 x a13 a14 a15 a16 a17 a18 := Eq.trans rfl rfl
theorem mx_g12 : (mx p a7 a8 a9 a10 a11 a12 a13 a14 a15 a16 a17 a18)[12]? = some a12 := Eq.trans rfl rfl
theorem mx_s13 : setAll (mx p a7 a8 a9 a10 a11 a12 a13 a14 a15 a16 a17 a18) 13 [x] = mx p a7 a8 a9 a10 a11 a12 x a14 a15 a16 a17 a18 := Eq.trans rfl rfl
theorem mx_g13 : (mx p a7 a8 a9 a10 a11 a12 a13 a14 a15 a16 a17 a18)[13]? = some a13 := Eq.trans rfl rfl
theorem mx_s14 : setAll (mx p a7 a8 a9 a10 a11 a12 a13 a14 a15 a16 a17 a18) 14 [x] = mx p a7 a8 a9 a10 a11 a12 a13 x a15 a16 a17 a18 := Eq.trans rfl rfl
theorem mx_g14 : (mx p a7 a8 a9 a10 a11 a12 a13 a14 a15 a16 a17 a18)[14]? = some a14 := Eq.trans rfl rfl
theorem mx_s15 : setAll (mx p a7 a8 a9 a10 a11 a12 a13 a14 a15 a16 a17 a18) 15 [x] = mx p a7 a8 a9 a10 a11 a12 a13 a14 x a16 a17 a18 := Eq.trans rfl rfl
theorem mx_g15 : (mx p a7 a8 a9 a10 a11 a12 a13 a14 a15 a16 a17 a18)[15]? = some a15 := Eq.trans rfl rfl
theorem mx_s16 : setAll (mx p a7 a8 a9 a10 a11 a12 a13 a14 a15 a16 a17 a18) 16 [x] = mx p a7 a8 a9 a10 a11 a12 a13 a14 a15 x a17 a18 := Eq.trans rfl rfl
theorem mx_g16 : (mx p a7 a8 a9 a10 a11 a12 a13 a14 a15 a16 a17 a18)[16]? = some a16 := Eq.trans rfl rfl
theorem mx_s17 : setAll (mx p a7 a8 a9 a10 a11 a12 a13 a14 a15 a16 a17 a18) 17 [x] = mx p a7 a8 a9 a10 a11 a12 a13 a14 a15 a16 x a18 := Eq.trans rfl rfl
theorem mx_g17 : (mx p a7 a8 a9 a10 a11 a12 a13 a14 a15 a16 a17 a18)[17]? = some a17 := Eq.trans rfl rfl
theorem mx_s18 : setAll (mx p a7 a8 a9 a10 a11 a12 a13 a14 a15 a16 a17 a18) 18 [x] = mx p a7 a8 a9 a10 a11 a12 a13 a14 a15 a16 a17 x := Eq.trans rfl rfl
theorem mx_g18 : (mx p a7 a8 a9 a10 a11 a12 a13 a14 a15 a16 a17 a18)[18]? = some a18 := Eq.trans rfl rfl
theorem mx_t7 : (mx p a7 a8 a9 a10 a11 a12 a13 a14 a15 a16 a17 a18).set 7 x = mx p x a8 a9 a10 a11 a12 a13 a14 a15 a16 a17 a18 := Eq.trans rfl rfl
theorem mx_t8 : (mx p a7 a8 a9 a10 a11 a12 a13 a14 a15 a16 a17 a18).set 8 x = mx p a7 x a9 a10 a11 a12 a13 a14 a15 a16 a17 a18 := Eq.trans rfl rfl
theorem mx_t9 : (mx p a7 a8 a9 a10 a11 a12 a13 a14 a15 a16 a17 a18).set 9 x = mx p a7 a8 x a10 a11 a12 a13 a14 a15 a16 a17 a18 := Eq.trans rfl rfl
theorem mx_t10 : (mx p a7 a8 a9 a10 a11 a12 a13 a14 a15 a16 a17 a18).set 10 x = mx p a7 a8 a9 x a11 a12 a13 a14 a15 a16 a17 a18 := Eq.trans rfl rfl
theorem mx_t11 : (mx p a7 a8 a9 a10 a11 a12 a13 a14 a15 a16 a17 a18).set 11 x = mx p a7 a8 a9 a10 x a12 a13 a14 a15 a16 a17 a18 := Eq.trans rfl rfl
theorem mx_t12 : (mx p a7 a8 a9 a10 a11 a12 a13 a14 a15 a16 a17 a18).set 12 x = mx p a7 a8 a9 a10 a11 x a13 a14 a15 a16 a17 a18 := Eq.trans rfl rfl
theorem mx_t13 : (mx p a7 a8 a9 a10 a11 a12 a13 a14 a15 a16 a17 a18).set 13 x = mx p a7 a8 a9 a10 a11 a12 x a14 a15 a16 a17 a18 := Eq.trans rfl rfl
theorem mx_t14 : (mx p a7 a8 a9 a10 a11 a12 a13 a14 a15 a16 a17 a18).set 14 x = mx p a7 a8 a9 a10 a11 a12 a13 x a15 a16 a17 a18 := Eq.trans rfl rfl
theorem mx_t15 : (mx p a7 a8 a9 a10 a11 a12 a13 a14 a15 a16 a17 a18).set 15 x = mx p a7 a8 a9 a10 a11 a12 a13 a14 x a16 a17 a18 := Eq.trans rfl rfl
theorem mx_t16 : (mx p a7 a8 a9 a10 a11 a12 a13 a14 a15 a16 a17 a18).set 16 x = mx p a7 a8 a9 a10 a11 a12 a13 a14 a15 x a17 a18 := Eq.trans rfl rfl
theorem mx_t17 : (mx p a7 a8 a9 a10 a11 a12 a13 a14 a15 a16 a17 a18).set 17 x = mx p a7 a8 a9 a10 a11 a12 a13 a14 a15 a16 x a18 := Eq.trans rfl rfl
theorem mx_t18 : (mx p a7 a8 a9 a10 a11 a12 a13 a14 a15 a16 a17 a18).set 18 x = mx p a7 a8 a9 a10 a11 a12 a13 a14 a15 a16 a17 x := Eq.trans rfl rfl
theorem setAll_vSt {z0 z1 z2 z3 z4 z5 z6 z7 z8 z9 z10 z11 z12 z13 z14 z15 z16 z17 z18 : Value} : setAll [z0, z1, z2, z3, z4, z5, z6, z7, z8, z9, z10, z11, z12, z13, z14, z15, z16, z17, z18] 0 (vSt p s) = mx p (vL vI s.at_) (vL vI s.g.began) (vL (vL vI) s.r) (vL vI s.g.vars) (vL vI s.g.atoms) (vL vI s.g.locks) (vL (vL vI) s.g.queue) (vL vI s.g.closed) (vL vI s.g.groups) (vL vI s.g.onces) (vL vI s.g.told) (vI s.g.trap) := by
  rw [setAll_all (by rw [vSt_len]; rfl)]
  exact mx_of
end
theorem setAll_cS {p : Prog} {s : MS} {v : Nat → Value} {z0 z1 z2 z3 z4 z5 z6 z7 z8 z9 z10 z11 z12 z13 z14 z15 z16 z17 z18 : Value} : setAll [z0, z1, z2, z3, z4, z5, z6, z7, z8, z9, z10, z11, z12, z13, z14, z15, z16, z17, z18] 0 (cS p s v) = cS p s v := setAll_all (by rw [cS_len]; rfl)
theorem cS_g0 {p : Prog} {s : MS} {v : Nat → Value} : (cS p s v)[0]? = some (vI p.vars) := Eq.trans rfl rfl
theorem cS_g3 {p : Prog} {s : MS} {v : Nat → Value} : (cS p s v)[3]? = some (vL vI p.chans) := Eq.trans rfl rfl
theorem cS_g6 {p : Prog} {s : MS} {v : Nat → Value} : (cS p s v)[6]? = some (vL (vM 4 vIns) p.threads) := Eq.trans rfl rfl
theorem cS_g7 {p : Prog} {s : MS} {v : Nat → Value} : (cS p s v)[7]? = some (v 0) := Eq.trans rfl rfl
theorem cS_g8 {p : Prog} {s : MS} {v : Nat → Value} : (cS p s v)[8]? = some (v 1) := Eq.trans rfl rfl
theorem cS_g9 {p : Prog} {s : MS} {v : Nat → Value} : (cS p s v)[9]? = some (v 2) := Eq.trans rfl rfl
theorem cS_g10 {p : Prog} {s : MS} {v : Nat → Value} : (cS p s v)[10]? = some (v 3) := Eq.trans rfl rfl
theorem cS_g11 {p : Prog} {s : MS} {v : Nat → Value} : (cS p s v)[11]? = some (v 4) := Eq.trans rfl rfl
theorem cS_g12 {p : Prog} {s : MS} {v : Nat → Value} : (cS p s v)[12]? = some (v 5) := Eq.trans rfl rfl
theorem cS_g13 {p : Prog} {s : MS} {v : Nat → Value} : (cS p s v)[13]? = some (v 6) := Eq.trans rfl rfl
theorem cS_g14 {p : Prog} {s : MS} {v : Nat → Value} : (cS p s v)[14]? = some (v 7) := Eq.trans rfl rfl
theorem cS_g15 {p : Prog} {s : MS} {v : Nat → Value} : (cS p s v)[15]? = some (v 8) := Eq.trans rfl rfl
theorem cS_g16 {p : Prog} {s : MS} {v : Nat → Value} : (cS p s v)[16]? = some (v 9) := Eq.trans rfl rfl
theorem cS_g17 {p : Prog} {s : MS} {v : Nat → Value} : (cS p s v)[17]? = some (v 10) := Eq.trans rfl rfl
theorem cS_g18 {p : Prog} {s : MS} {v : Nat → Value} : (cS p s v)[18]? = some (vI s.g.trap) := Eq.trans rfl rfl
theorem cS_t18 {p : Prog} {s : MS} {v : Nat → Value} {x : Int} : (cS p s v).set 18 (vI x) = cS p { s with g := { s.g with trap := x } } v := Eq.trans rfl rfl
theorem cS_t17 {p : Prog} {s : MS} {v : Nat → Value} {w : Value} : (cS p s v).set 17 w = cS p s (fset v 10 w) := rfl
/-- Behind three boxes. -/
def OwnG (h g : Heap) (v : Nat → Value) (c : Nat → List Value) : Prop := ∀ b1 b2 b3 : Ob, Owns (h.length + 3) (h ++ (b1 :: b2 :: b3 :: g)) v c
section
variable {h g g' : Heap} {v : Nat → Value} {c : Nat → List Value} {b1 b2 b3 : Ob}
theorem OwnG.none : OwnG h [] (fun _ => nilS) (fun _ => []) := fun _ _ _ => Owns.none
theorem at_g {i : Nat} (hi : h.length + 3 ≤ i) : (h ++ (b1 :: b2 :: b3 :: g))[i]? = g[i - (h.length + 3)]? := by
  obtain ⟨j, rfl⟩ : ∃ j, i = h.length + (j + 3) := ⟨i - h.length - 3, by omega⟩
  rw [List.getElem?_append_right (by omega), show h.length + (j + 3) - h.length = j + 3 by omega, show h.length + (j + 3) - (h.length + 3) = j by omega]
  rfl
theorem ownG_of (h1 : Owns (h.length + 3) (h ++ (b1 :: b2 :: b3 :: g)) v c) : OwnG h g v c := fun c1 c2 c3 => h1.keep fun i hi _ => by rw [at_g hi, at_g hi]
theorem OwnG.grow (ho : OwnG h g v c) : OwnG h (g ++ g') v c := fun c1 c2 c3 => by
  have := (ho c1 c2 c3).app (rs := g')
  simpa using this
theorem OwnG.add (ho : OwnG h g v c) (j : Nat) {x : Value} {l : List Value} (hj : v j = nilS) (ha : Acc 1 (h ++ (b1 :: b2 :: b3 :: g)).length (h ++ (b1 :: b2 :: b3 :: (g ++ g'))) x l.length l) : OwnG h (g ++ g') (fset v j x) (fset c j l) := by
  refine ownG_of (b1 := b1) (b2 := b2) (b3 := b3) ?_
  refine (ho b1 b2 b3).add j hj (by simp) ?_ ha
  have : h ++ (b1 :: b2 :: b3 :: (g ++ g')) = (h ++ (b1 :: b2 :: b3 :: g)) ++ g' := by simp
  rw [this]
  exact .app
theorem OwnG.add' (ho : OwnG h g v c) (j : Nat) {x : Value} {l : List Value} {H : Heap} (hH : H = h ++ (b1 :: b2 :: b3 :: g)) (hj : v j = nilS) (ha : Acc 1 H.length (H ++ g') x l.length l) : OwnG h (g ++ g') (fset v j x) (fset c j l) := by
  subst hH
  refine ho.add j (b1 := b1) (b2 := b2) (b3 := b3) hj ?_
  rw [List.append_assoc] at ha
  exact ha
theorem keepsG {H2 : Heap} (k : Keeps (h.length + 3) (h ++ (b1 :: b2 :: b3 :: g)) H2) : ∃ g2, H2 = h ++ (b1 :: b2 :: b3 :: g2) := by
  have k' : Keeps (h ++ [b1, b2, b3]).length (h ++ [b1, b2, b3]) H2 := by
    refine ⟨Nat.le_trans (by simp) k.1, fun i hi => ?_⟩
    have hi' : i < h.length + 3 := by simpa using hi
    rw [k.2 i hi']
    have : h ++ (b1 :: b2 :: b3 :: g) = (h ++ [b1, b2, b3]) ++ g := by simp
    rw [this, List.getElem?_append_left hi]
  obtain ⟨g2, e⟩ := k'.ext
  exact ⟨g2, by rw [e]; simp⟩
/-- One more in a row. -/
theorem OwnG.more (ho : OwnG h g v c) (j : Nat) {x : Value} {new : List Value} (hn : pElems (h ++ (b1 :: b2 :: b3 :: g)) 1 x = some (new.length, new)) (hlim : (c j).length + new.length ≤ lim) :
    ∃ w g2, pApp (h ++ (b1 :: b2 :: b3 :: g)) 1 (v j) x = some (w, h ++ (b1 :: b2 :: b3 :: g2)) ∧ OwnG h g2 (fset v j w) (fset c j (c j ++ new)) := by
  obtain ⟨w, H', g3, q1, q2, q3, q4, _⟩ := (ho b1 b2 b3).more j (rs := []) (by simp) (by rw [List.append_nil]; exact hn) hlim
  rw [List.append_nil, List.nil_append] at q1
  rw [List.nil_append] at q3
  have k : Keeps (h.length + 3) (h ++ (b1 :: b2 :: b3 :: g)) (H' ++ g3) := by
    refine ⟨by rw [← q2, List.length_append]; exact Nat.le_add_right _ _, fun i hi => ?_⟩
    rw [List.getElem?_append_left (by rw [q2]; simp; omega)]
    exact q4 i ((ho b1 b2 b3).low hi)
  obtain ⟨g2, e⟩ := keepsG k
  rw [e] at q1 q3
  exact ⟨w, g2, q1, ownG_of q3⟩
theorem pElems_last {G : Heap} {x : Value} {k : Nat} (hk : k = G.length) : pElems (G ++ [bx [x] 1]) 1 (.slice (some ⟨k, 0, Option.none⟩) 1 0) = some (1, [x]) := by
  subst hk
  simp [pElems, asLst, elemsV, Heap.cells?, Heap.row?, bx]
theorem Owns.one {b : Nat} {H : Heap} (ho : Owns b H v c) (j : Nat) : cellsOf (v j) = some [v j] := acc_cell (ho.acc j)
theorem OwnG.push {P : Program} {K : Fr → Heap → Prop} {is : List AIns} {d : Option Nat} {fr : Fr} {H0 G : Heap} {k : Nat} {x vj : Value} (ho : OwnG h g v c) (j : Nat) (hG : G = g ++ [bx [x] 1]) (hk : k = h.length + (g.length + 3)) (hv : vj = v j) (hl : (c j).length + 1 ≤ lim)
    (hn : ∀ w g2, OwnG h g2 (fset v j w) (fset c j (c j ++ [x])) → cellsOf w = some [w] → pOps P K is (updO fr d w) (h ++ (b1 :: b2 :: b3 :: g2))) : eK P K is d [] fr H0 (pApp (h ++ (b1 :: b2 :: b3 :: G)) 1 vj (.slice (some ⟨k, 0, Option.none⟩) 1 0)) := by
  subst hG; subst hv
  have hp : pElems (h ++ (b1 :: b2 :: b3 :: (g ++ [bx [x] 1]))) 1 (.slice (some ⟨k, 0, Option.none⟩) 1 0) = some (1, [x]) := by
    have := pElems_last (G := h ++ (b1 :: b2 :: b3 :: g)) (x := x) (k := k) (by simp; omega)
    simpa using this
  obtain ⟨w, g2, q1, q2⟩ := (ho.grow (g' := [bx [x] 1])).more (b1 := b1) (b2 := b2) (b3 := b3) j (new := [x]) hp hl
  rw [q1, eK_some]
  refine ⟨trivial, hn w g2 q2 ?_⟩
  have := (q2 .hole .hole .hole).one j
  rw [fset_same] at this
  exact this
theorem Owns.stay {b : Nat} {H : Heap} (ho : Owns b H v c) (j : Nat) : stayV (v j) = true := by
  rcases ho.acc j with ⟨h1, _⟩ | ⟨id, ver, h1, _⟩ <;> rw [h1] <;> rfl
theorem OwnG.stay (ho : OwnG h g v c) (j : Nat) : stayV (v j) = true := (ho .hole .hole .hole).stay j
theorem Owns.weak {b b' : Nat} {H : Heap} (hb : b' ≤ b) (ho : Owns b H v c) : Owns b' H v c := by
  refine ⟨fun j => ?_, ho.apart⟩
  rcases ho.acc j with h1 | ⟨id, ver, h1, h2, h3⟩
  · exact Or.inl h1
  · exact Or.inr ⟨id, ver, h1, by omega, h3⟩
end
section
variable {h : Heap} {K : Value → Heap → Prop}
theorem r4clone_call {l : List Int} (hl : l.length ≤ lim) (hk : ∀ v g, Acc 1 h.length (h ++ g) v (l.map vI).length (l.map vI) → K v (h ++ g)) : PCall prog 54 [vL vI l] h K := by
  refine call_r4clone (by simp) ?_
  obtain ⟨v', h2, q1, q2, q3, _⟩ := (Acc.nil : Acc 1 h.length h nilS 0 []).app (Nat.le_refl _) (h1 := h) (.refl _ _) (x := vL vI l) (k := l.length) (new := l.map vI) (by simp) (by simp) (by omega)
  obtain ⟨g, rfl⟩ := q3.ext
  rw [Nat.zero_add, List.nil_append] at q2
  simp [new_box, app_box, len_box, cell_box, cell_box0, cells_box, cells_box0, store_box, store_box0, cellB_bx, cellsB_bx, storeB_bx, BodyK, resVs, resV, retV, box_all, cast_lit, wrap_1, wrap_2, wrap_3, wrap_4, c_r4clone, q1]
  exact hk v' g (by rw [List.length_map]; exact q2)
/-- The first rows of a state. -/
def partM (s : MS) (i m : Nat) : MS := { s with r := s.r.take i, g := { s.g with queue := s.g.queue.take m } }
structure CopyI (h : Heap) (s : MS) (i m : Nat) (g : Heap) (v : Nat → Value) : Prop where
  own : OwnG h g v (want (partM s i m) v)
  r : ∀ k, i ≤ k → v (16 + 2 * k) = nilS
  q : ∀ k, m ≤ k → v (17 + 2 * k) = nilS
def fixV (x0 x1 x3 x4 x5 x7 x8 x9 x10 : Value) : Nat → Value := fset (fset (fset (fset (fset (fset (fset (fset (fset (fun _ => nilS) 0 x0) 1 x1) 3 x3) 4 x4) 5 x5) 7 x7) 8 x8) 9 x9) 10 x10
def fixC (s : MS) : Nat → List Value := fset (fset (fset (fset (fset (fset (fset (fset (fset (fun _ => []) 0 (s.at_.map vI)) 1 (s.g.began.map vI)) 3 (s.g.vars.map vI)) 4 (s.g.atoms.map vI)) 5 (s.g.locks.map vI)) 7 (s.g.closed.map vI)) 8 (s.g.groups.map vI)) 9 (s.g.onces.map vI)) 10 (s.g.told.map vI)
theorem fixC_want {s : MS} {v : Nat → Value} : fixC s = want (partM s 0 0) v := by
  funext j
  rcases ix j with h | ⟨m, rfl⟩ | ⟨m, rfl⟩
  · rcases small16 h with rfl | rfl | rfl | rfl | rfl | rfl | rfl | rfl | rfl | rfl | rfl | rfl | rfl | rfl | rfl | rfl
    all_goals first
      | rfl
      | (simp [want, partM, fixC, fset])
  · rw [want_r]
    unfold fixC
    rw [fset_ne (by omega), fset_ne (by omega), fset_ne (by omega), fset_ne (by omega), fset_ne (by omega), fset_ne (by omega), fset_ne (by omega), fset_ne (by omega), fset_ne (by omega)]
    simp [partM]
  · rw [want_q]
    unfold fixC
    rw [fset_ne (by omega), fset_ne (by omega), fset_ne (by omega), fset_ne (by omega), fset_ne (by omega), fset_ne (by omega), fset_ne (by omega), fset_ne (by omega), fset_ne (by omega)]
    simp [partM]
theorem copy_r {s : MS} {i i1 m : Nat} {r : List Int} {v : Nat → Value} {x w : Value} (hi : i1 = i + 1) (hr : s.r[i]? = some r) :
    fset (fset (want (partM s i m) v) (16 + 2 * i) (r.map vI)) 2 ((fset (want (partM s i m) v) (16 + 2 * i) (r.map vI)) 2 ++ [x]) = want (partM s i1 m) (fset (fset v (16 + 2 * i) x) 2 w) := by
  subst hi
  have hlt := (List.getElem?_eq_some_iff.1 hr).1
  funext j
  have e1 : ∀ k : Nat, k ≠ i → fset (fset v (16 + 2 * i) x) 2 w (16 + 2 * k) = v (16 + 2 * k) := fun k hk => by rw [fset_ne (by omega), fset_ne (by omega)]
  have e2 : ∀ k : Nat, fset (fset v (16 + 2 * i) x) 2 w (17 + 2 * k) = v (17 + 2 * k) := fun k => by rw [fset_ne (by omega), fset_ne (by omega)]
  have e3 : fset (fset v (16 + 2 * i) x) 2 w (16 + 2 * i) = x := by rw [fset_ne (by omega), fset_same]
  rcases ix j with h | ⟨k, rfl⟩ | ⟨k, rfl⟩
  · by_cases h2 : j = 2
    · subst h2
      rw [fset_same, fset_ne (by omega), want_2, want_2]
      have l1 : (partM s i m).r.length = i := by simp [partM]; omega
      have l2 : (partM s (i + 1) m).r.length = i + 1 := by simp [partM]; omega
      rw [l1, l2, List.range_succ, List.map_append]
      congr 1
      · refine List.map_congr_left fun k hk => ?_
        have := List.mem_range.1 hk
        rw [e1 k (by omega)]
      · simp only [List.map_cons, List.map_nil, e3]
    · rw [fset_ne h2, fset_ne (by omega)]
      rcases small16 h with rfl | rfl | rfl | rfl | rfl | rfl | rfl | rfl | rfl | rfl | rfl | rfl | rfl | rfl | rfl | rfl
      all_goals first
        | rfl
        | exact absurd rfl h2
        | (simp only [want_6, e2, partM])
  · rw [fset_ne (by omega), want_r]
    by_cases hk : k = i
    · subst hk
      rw [fset_same]
      simp only [partM]
      rw [List.getElem?_take_of_lt (by omega), hr]
      rfl
    · rw [fset_ne (by omega), want_r]
      simp only [partM, List.getElem?_take]
      congr 1
      by_cases h1 : k < i
      · rw [if_pos h1, if_pos (by omega)]
      · rw [if_neg h1, if_neg (by omega)]
  · rw [fset_ne (by omega), fset_ne (by omega), want_q, want_q]
    rfl
theorem copy_q {s : MS} {i i1 m : Nat} {r : List Int} {v : Nat → Value} {x w : Value} (hi : i1 = i + 1) (hr : s.g.queue[i]? = some r) :
    fset (fset (want (partM s m i) v) (17 + 2 * i) (r.map vI)) 6 ((fset (want (partM s m i) v) (17 + 2 * i) (r.map vI)) 6 ++ [x]) = want (partM s m i1) (fset (fset v (17 + 2 * i) x) 6 w) := by
  subst hi
  have hlt := (List.getElem?_eq_some_iff.1 hr).1
  funext j
  have e1 : ∀ k : Nat, k ≠ i → fset (fset v (17 + 2 * i) x) 6 w (17 + 2 * k) = v (17 + 2 * k) := fun k hk => by rw [fset_ne (by omega), fset_ne (by omega)]
  have e2 : ∀ k : Nat, fset (fset v (17 + 2 * i) x) 6 w (16 + 2 * k) = v (16 + 2 * k) := fun k => by rw [fset_ne (by omega), fset_ne (by omega)]
  have e3 : fset (fset v (17 + 2 * i) x) 6 w (17 + 2 * i) = x := by rw [fset_ne (by omega), fset_same]
  rcases ix j with h | ⟨k, rfl⟩ | ⟨k, rfl⟩
  · by_cases h2 : j = 6
    · subst h2
      rw [fset_same, fset_ne (by omega), want_6, want_6]
      have l1 : (partM s m i).g.queue.length = i := by simp [partM]; omega
      have l2 : (partM s m (i + 1)).g.queue.length = i + 1 := by simp [partM]; omega
      rw [l1, l2, List.range_succ, List.map_append]
      congr 1
      · refine List.map_congr_left fun k hk => ?_
        have := List.mem_range.1 hk
        rw [e1 k (by omega)]
      · simp only [List.map_cons, List.map_nil, e3]
    · rw [fset_ne h2, fset_ne (by omega)]
      rcases small16 h with rfl | rfl | rfl | rfl | rfl | rfl | rfl | rfl | rfl | rfl | rfl | rfl | rfl | rfl | rfl | rfl
      all_goals first
        | rfl
        | exact absurd rfl h2
        | (simp only [want_2, e2, partM])
  · rw [fset_ne (by omega), fset_ne (by omega), want_r, want_r]
    rfl
  · rw [fset_ne (by omega), want_q]
    by_cases hk : k = i
    · subst hk
      rw [fset_same]
      simp only [partM]
      rw [List.getElem?_take_of_lt (by omega), hr]
      rfl
    · rw [fset_ne (by omega), want_q]
      simp only [partM, List.getElem?_take]
      congr 1
      by_cases h1 : k < i
      · rw [if_pos h1, if_pos (by omega)]
      · rw [if_neg h1, if_neg (by omega)]
set_option maxHeartbeats 4000000 in
theorem r4Copy_call {p : Prog} {s : MS} (hs : Shape p s) (ht : s.g.told.length ≤ lim) (hl : ∀ l ∈ s.g.queue, l.length ≤ lim) (hn : p.threads.length ≤ 6 ∧ p.chans.length ≤ 4) (hsm : s.g.vars.length ≤ lim ∧ s.g.atoms.length ≤ lim ∧ s.g.locks.length ≤ lim ∧ s.g.groups.length ≤ lim ∧ s.g.onces.length ≤ lim)
    (hk : ∀ v g, Owns h.length (h ++ g) v (want s v) → K (.agg (cS p s v).toArray) (h ++ g)) : PCall prog 22 [.agg (vSt p s).toArray] h K := by
  have hlim : lim = 1048576 := rfl
  have l0 : s.at_.length ≤ lim := by rw [hs.at_]; omega
  have l1 : s.g.began.length ≤ lim := by rw [hs.began]; omega
  have l7 : s.g.closed.length ≤ lim := by rw [hs.closed]; omega
  refine call_r4Copy (by simp) ?_
  obtain ⟨b1, hb1⟩ : ∃ b1, b1 = bx (vSt p s) 19 := ⟨_, rfl⟩
  simp [-pwp_seq, new_box, app_box, len_box, cell_box, cell_box0, cells_box, cells_box0, store_box, store_box0, cellB_bx, cellsB_bx, storeB_bx, BodyK, resVs, resV, retV, box_all, cast_lit, wrap_1, wrap_2, wrap_3, wrap_4, c_r4Copy, -cellsOf_agg, vSt_len, vSt_take, vSt_of, vS_0, vS_1, vS_2, vS_3, vS_4, vS_5, vS_6, vS_7, vS_8, vS_9, vS_10, vS_11, vS_12, vS_13, vS_14, vS_15, vS_16, vS_17, vS_18, vIns_len, take_vIns, cellsOf_vIns, vN_0, vN_1, vN_2, vN_3, mx_t7, mx_t8, mx_t9, mx_t10, mx_t11, mx_t12, mx_t13, mx_t14, mx_t15, mx_t16, mx_t17, mx_t18, mx_len, mx_take, setAll_vSt, mx_s7, mx_g7, mx_s8, mx_g8, mx_s9, mx_g9, mx_s10, mx_g10, mx_s11, mx_g11, mx_s12, mx_g12, mx_s13, mx_g13, mx_s14, mx_g14, mx_s15, mx_g15, mx_s16, mx_g16, mx_s17, mx_g17, mx_s18, mx_g18]
  refine r4clone_call l0 fun x0 g0 a0 => ?_
  have O0 := OwnG.add' (OwnG.none : OwnG h _ _ _) 0 rfl (by simp [fset]) a0
  try simp only [List.nil_append, List.append_assoc] at O0
  have k0 := acc_cell a0
  clear a0
  simp [-pwp_seq, new_box, app_box, len_box, cell_box, cell_box0, cells_box, cells_box0, store_box, store_box0, cellB_bx, cellsB_bx, storeB_bx, BodyK, resVs, resV, retV, box_all, cast_lit, wrap_1, wrap_2, wrap_3, wrap_4, callK_def, -cellsOf_agg, vSt_len, vSt_take, vSt_of, vS_0, vS_1, vS_2, vS_3, vS_4, vS_5, vS_6, vS_7, vS_8, vS_9, vS_10, vS_11, vS_12, vS_13, vS_14, vS_15, vS_16, vS_17, vS_18, vIns_len, take_vIns, cellsOf_vIns, vN_0, vN_1, vN_2, vN_3, mx_t7, mx_t8, mx_t9, mx_t10, mx_t11, mx_t12, mx_t13, mx_t14, mx_t15, mx_t16, mx_t17, mx_t18, mx_len, mx_take, setAll_vSt, mx_s7, mx_g7, mx_s8, mx_g8, mx_s9, mx_g9, mx_s10, mx_g10, mx_s11, mx_g11, mx_s12, mx_g12, mx_s13, mx_g13, mx_s14, mx_g14, mx_s15, mx_g15, mx_s16, mx_g16, mx_s17, mx_g17, mx_s18, mx_g18, k0]
  refine r4clone_call l1 fun x1 g1 a1 => ?_
  have O1 := OwnG.add' (O0 : OwnG h _ _ _) 1 rfl (by simp [fset]) a1
  try simp only [List.nil_append, List.append_assoc] at O1
  have k1 := acc_cell a1
  clear a1
  simp [-pwp_seq, new_box, app_box, len_box, cell_box, cell_box0, cells_box, cells_box0, store_box, store_box0, cellB_bx, cellsB_bx, storeB_bx, BodyK, resVs, resV, retV, box_all, cast_lit, wrap_1, wrap_2, wrap_3, wrap_4, callK_def, -cellsOf_agg, vSt_len, vSt_take, vSt_of, vS_0, vS_1, vS_2, vS_3, vS_4, vS_5, vS_6, vS_7, vS_8, vS_9, vS_10, vS_11, vS_12, vS_13, vS_14, vS_15, vS_16, vS_17, vS_18, vIns_len, take_vIns, cellsOf_vIns, vN_0, vN_1, vN_2, vN_3, mx_t7, mx_t8, mx_t9, mx_t10, mx_t11, mx_t12, mx_t13, mx_t14, mx_t15, mx_t16, mx_t17, mx_t18, mx_len, mx_take, setAll_vSt, mx_s7, mx_g7, mx_s8, mx_g8, mx_s9, mx_g9, mx_s10, mx_g10, mx_s11, mx_g11, mx_s12, mx_g12, mx_s13, mx_g13, mx_s14, mx_g14, mx_s15, mx_g15, mx_s16, mx_g16, mx_s17, mx_g17, mx_s18, mx_g18, k1]
  refine r4clone_call hsm.1 fun x3 g3 a3 => ?_
  have O3 := OwnG.add' (O1 : OwnG h _ _ _) 3 rfl (by simp [fset]) a3
  try simp only [List.nil_append, List.append_assoc] at O3
  have k3 := acc_cell a3
  clear a3
  simp [-pwp_seq, new_box, app_box, len_box, cell_box, cell_box0, cells_box, cells_box0, store_box, store_box0, cellB_bx, cellsB_bx, storeB_bx, BodyK, resVs, resV, retV, box_all, cast_lit, wrap_1, wrap_2, wrap_3, wrap_4, callK_def, -cellsOf_agg, vSt_len, vSt_take, vSt_of, vS_0, vS_1, vS_2, vS_3, vS_4, vS_5, vS_6, vS_7, vS_8, vS_9, vS_10, vS_11, vS_12, vS_13, vS_14, vS_15, vS_16, vS_17, vS_18, vIns_len, take_vIns, cellsOf_vIns, vN_0, vN_1, vN_2, vN_3, mx_t7, mx_t8, mx_t9, mx_t10, mx_t11, mx_t12, mx_t13, mx_t14, mx_t15, mx_t16, mx_t17, mx_t18, mx_len, mx_take, setAll_vSt, mx_s7, mx_g7, mx_s8, mx_g8, mx_s9, mx_g9, mx_s10, mx_g10, mx_s11, mx_g11, mx_s12, mx_g12, mx_s13, mx_g13, mx_s14, mx_g14, mx_s15, mx_g15, mx_s16, mx_g16, mx_s17, mx_g17, mx_s18, mx_g18, k3]
  refine r4clone_call hsm.2.1 fun x4 g4 a4 => ?_
  have O4 := OwnG.add' (O3 : OwnG h _ _ _) 4 rfl (by simp [fset]) a4
  try simp only [List.nil_append, List.append_assoc] at O4
  have k4 := acc_cell a4
  clear a4
  simp [-pwp_seq, new_box, app_box, len_box, cell_box, cell_box0, cells_box, cells_box0, store_box, store_box0, cellB_bx, cellsB_bx, storeB_bx, BodyK, resVs, resV, retV, box_all, cast_lit, wrap_1, wrap_2, wrap_3, wrap_4, callK_def, -cellsOf_agg, vSt_len, vSt_take, vSt_of, vS_0, vS_1, vS_2, vS_3, vS_4, vS_5, vS_6, vS_7, vS_8, vS_9, vS_10, vS_11, vS_12, vS_13, vS_14, vS_15, vS_16, vS_17, vS_18, vIns_len, take_vIns, cellsOf_vIns, vN_0, vN_1, vN_2, vN_3, mx_t7, mx_t8, mx_t9, mx_t10, mx_t11, mx_t12, mx_t13, mx_t14, mx_t15, mx_t16, mx_t17, mx_t18, mx_len, mx_take, setAll_vSt, mx_s7, mx_g7, mx_s8, mx_g8, mx_s9, mx_g9, mx_s10, mx_g10, mx_s11, mx_g11, mx_s12, mx_g12, mx_s13, mx_g13, mx_s14, mx_g14, mx_s15, mx_g15, mx_s16, mx_g16, mx_s17, mx_g17, mx_s18, mx_g18, k4]
  refine r4clone_call hsm.2.2.1 fun x5 g5 a5 => ?_
  have O5 := OwnG.add' (O4 : OwnG h _ _ _) 5 rfl (by simp [fset]) a5
  try simp only [List.nil_append, List.append_assoc] at O5
  have k5 := acc_cell a5
  clear a5
  simp [-pwp_seq, new_box, app_box, len_box, cell_box, cell_box0, cells_box, cells_box0, store_box, store_box0, cellB_bx, cellsB_bx, storeB_bx, BodyK, resVs, resV, retV, box_all, cast_lit, wrap_1, wrap_2, wrap_3, wrap_4, callK_def, -cellsOf_agg, vSt_len, vSt_take, vSt_of, vS_0, vS_1, vS_2, vS_3, vS_4, vS_5, vS_6, vS_7, vS_8, vS_9, vS_10, vS_11, vS_12, vS_13, vS_14, vS_15, vS_16, vS_17, vS_18, vIns_len, take_vIns, cellsOf_vIns, vN_0, vN_1, vN_2, vN_3, mx_t7, mx_t8, mx_t9, mx_t10, mx_t11, mx_t12, mx_t13, mx_t14, mx_t15, mx_t16, mx_t17, mx_t18, mx_len, mx_take, setAll_vSt, mx_s7, mx_g7, mx_s8, mx_g8, mx_s9, mx_g9, mx_s10, mx_g10, mx_s11, mx_g11, mx_s12, mx_g12, mx_s13, mx_g13, mx_s14, mx_g14, mx_s15, mx_g15, mx_s16, mx_g16, mx_s17, mx_g17, mx_s18, mx_g18, k5]
  refine r4clone_call l7 fun x7 g7 a7 => ?_
  have O7 := OwnG.add' (O5 : OwnG h _ _ _) 7 rfl (by simp [fset]) a7
  try simp only [List.nil_append, List.append_assoc] at O7
  have k7 := acc_cell a7
  clear a7
  simp [-pwp_seq, new_box, app_box, len_box, cell_box, cell_box0, cells_box, cells_box0, store_box, store_box0, cellB_bx, cellsB_bx, storeB_bx, BodyK, resVs, resV, retV, box_all, cast_lit, wrap_1, wrap_2, wrap_3, wrap_4, callK_def, -cellsOf_agg, vSt_len, vSt_take, vSt_of, vS_0, vS_1, vS_2, vS_3, vS_4, vS_5, vS_6, vS_7, vS_8, vS_9, vS_10, vS_11, vS_12, vS_13, vS_14, vS_15, vS_16, vS_17, vS_18, vIns_len, take_vIns, cellsOf_vIns, vN_0, vN_1, vN_2, vN_3, mx_t7, mx_t8, mx_t9, mx_t10, mx_t11, mx_t12, mx_t13, mx_t14, mx_t15, mx_t16, mx_t17, mx_t18, mx_len, mx_take, setAll_vSt, mx_s7, mx_g7, mx_s8, mx_g8, mx_s9, mx_g9, mx_s10, mx_g10, mx_s11, mx_g11, mx_s12, mx_g12, mx_s13, mx_g13, mx_s14, mx_g14, mx_s15, mx_g15, mx_s16, mx_g16, mx_s17, mx_g17, mx_s18, mx_g18, k7]
  refine r4clone_call hsm.2.2.2.1 fun x8 g8 a8 => ?_
  have O8 := OwnG.add' (O7 : OwnG h _ _ _) 8 rfl (by simp [fset]) a8
  try simp only [List.nil_append, List.append_assoc] at O8
  have k8 := acc_cell a8
  clear a8
  simp [-pwp_seq, new_box, app_box, len_box, cell_box, cell_box0, cells_box, cells_box0, store_box, store_box0, cellB_bx, cellsB_bx, storeB_bx, BodyK, resVs, resV, retV, box_all, cast_lit, wrap_1, wrap_2, wrap_3, wrap_4, callK_def, -cellsOf_agg, vSt_len, vSt_take, vSt_of, vS_0, vS_1, vS_2, vS_3, vS_4, vS_5, vS_6, vS_7, vS_8, vS_9, vS_10, vS_11, vS_12, vS_13, vS_14, vS_15, vS_16, vS_17, vS_18, vIns_len, take_vIns, cellsOf_vIns, vN_0, vN_1, vN_2, vN_3, mx_t7, mx_t8, mx_t9, mx_t10, mx_t11, mx_t12, mx_t13, mx_t14, mx_t15, mx_t16, mx_t17, mx_t18, mx_len, mx_take, setAll_vSt, mx_s7, mx_g7, mx_s8, mx_g8, mx_s9, mx_g9, mx_s10, mx_g10, mx_s11, mx_g11, mx_s12, mx_g12, mx_s13, mx_g13, mx_s14, mx_g14, mx_s15, mx_g15, mx_s16, mx_g16, mx_s17, mx_g17, mx_s18, mx_g18, k8]
  refine r4clone_call hsm.2.2.2.2 fun x9 g9 a9 => ?_
  have O9 := OwnG.add' (O8 : OwnG h _ _ _) 9 rfl (by simp [fset]) a9
  try simp only [List.nil_append, List.append_assoc] at O9
  have k9 := acc_cell a9
  clear a9
  simp [-pwp_seq, new_box, app_box, len_box, cell_box, cell_box0, cells_box, cells_box0, store_box, store_box0, cellB_bx, cellsB_bx, storeB_bx, BodyK, resVs, resV, retV, box_all, cast_lit, wrap_1, wrap_2, wrap_3, wrap_4, callK_def, -cellsOf_agg, vSt_len, vSt_take, vSt_of, vS_0, vS_1, vS_2, vS_3, vS_4, vS_5, vS_6, vS_7, vS_8, vS_9, vS_10, vS_11, vS_12, vS_13, vS_14, vS_15, vS_16, vS_17, vS_18, vIns_len, take_vIns, cellsOf_vIns, vN_0, vN_1, vN_2, vN_3, mx_t7, mx_t8, mx_t9, mx_t10, mx_t11, mx_t12, mx_t13, mx_t14, mx_t15, mx_t16, mx_t17, mx_t18, mx_len, mx_take, setAll_vSt, mx_s7, mx_g7, mx_s8, mx_g8, mx_s9, mx_g9, mx_s10, mx_g10, mx_s11, mx_g11, mx_s12, mx_g12, mx_s13, mx_g13, mx_s14, mx_g14, mx_s15, mx_g15, mx_s16, mx_g16, mx_s17, mx_g17, mx_s18, mx_g18, k9]
  refine r4clone_call ht fun x10 g10 a10 => ?_
  have O10 := OwnG.add' (O9 : OwnG h _ _ _) 10 rfl (by simp [fset]) a10
  try simp only [List.nil_append, List.append_assoc] at O10
  have k10 := acc_cell a10
  clear a10
  simp [-pwp_seq, new_box, app_box, len_box, cell_box, cell_box0, cells_box, cells_box0, store_box, store_box0, cellB_bx, cellsB_bx, storeB_bx, BodyK, resVs, resV, retV, box_all, cast_lit, wrap_1, wrap_2, wrap_3, wrap_4, callK_def, -cellsOf_agg, vSt_len, vSt_take, vSt_of, vS_0, vS_1, vS_2, vS_3, vS_4, vS_5, vS_6, vS_7, vS_8, vS_9, vS_10, vS_11, vS_12, vS_13, vS_14, vS_15, vS_16, vS_17, vS_18, vIns_len, take_vIns, cellsOf_vIns, vN_0, vN_1, vN_2, vN_3, mx_t7, mx_t8, mx_t9, mx_t10, mx_t11, mx_t12, mx_t13, mx_t14, mx_t15, mx_t16, mx_t17, mx_t18, mx_len, mx_take, setAll_vSt, mx_s7, mx_g7, mx_s8, mx_g8, mx_s9, mx_g9, mx_s10, mx_g10, mx_s11, mx_g11, mx_s12, mx_g12, mx_s13, mx_g13, mx_s14, mx_g14, mx_s15, mx_g15, mx_s16, mx_g16, mx_s17, mx_g17, mx_s18, mx_g18, k10]
  have C0 : CopyI h s 0 0 (g0 ++ (g1 ++ (g3 ++ (g4 ++ (g5 ++ (g7 ++ (g8 ++ (g9 ++ g10)))))))) (fixV x0 x1 x3 x4 x5 x7 x8 x9 x10) := by
    refine ⟨?_, fun k _ => ?_, fun k _ => ?_⟩
    · rw [← fixC_want]; exact O10
    · unfold fixV
      rw [fset_ne (by omega), fset_ne (by omega), fset_ne (by omega), fset_ne (by omega), fset_ne (by omega), fset_ne (by omega), fset_ne (by omega), fset_ne (by omega), fset_ne (by omega)]
    · unfold fixV
      rw [fset_ne (by omega), fset_ne (by omega), fset_ne (by omega), fset_ne (by omega), fset_ne (by omega), fset_ne (by omega), fset_ne (by omega), fset_ne (by omega), fset_ne (by omega)]
  clear O0 O1 O3 O4 O5 O7 O8 O9 O10 k0 k1 k3 k4 k5 k7 k8 k9 k10 hb1 b1
  have hv2 : fixV x0 x1 x3 x4 x5 x7 x8 x9 x10 2 = nilS := by simp [fixV, fset]
  have hv6 : fixV x0 x1 x3 x4 x5 x7 x8 x9 x10 6 = nilS := by simp [fixV, fset]
  generalize (g0 ++ (g1 ++ (g3 ++ (g4 ++ (g5 ++ (g7 ++ (g8 ++ (g9 ++ g10)))))))) = G0 at C0 ⊢
  obtain ⟨v0, hv0⟩ : ∃ v0, v0 = fixV x0 x1 x3 x4 x5 x7 x8 x9 x10 := ⟨_, rfl⟩
  have y0 : x0 = v0 0 := by rw [hv0]; simp [fixV, fset]
  have y1 : x1 = v0 1 := by rw [hv0]; simp [fixV, fset]
  have y3 : x3 = v0 3 := by rw [hv0]; simp [fixV, fset]
  have y4 : x4 = v0 4 := by rw [hv0]; simp [fixV, fset]
  have y5 : x5 = v0 5 := by rw [hv0]; simp [fixV, fset]
  have y7 : x7 = v0 7 := by rw [hv0]; simp [fixV, fset]
  have y8 : x8 = v0 8 := by rw [hv0]; simp [fixV, fset]
  have y9 : x9 = v0 9 := by rw [hv0]; simp [fixV, fset]
  have y10 : x10 = v0 10 := by rw [hv0]; simp [fixV, fset]
  rw [← hv0] at C0 hv2 hv6
  rw [y0, y1, y3, y4, y5, y7, y8, y9, y10]
  clear hv0 y0 y1 y3 y4 y5 y7 y8 y9 y10
  have hqs : nilS = v0 2 := hv2.symm
  refine seq_l (σ := Heap × (Nat → Value)) (fun x => [(1, ptr h.length), (2, ptr (h.length + 1)), (3, ptr (h.length + 2))]) (fun x => h ++ (bx (vSt p s) 19 :: bx [.int .i64 0, .int .i64 0, .int .i64 0, .slice none 0 0, .int .i64 0, .int .i64 0, .slice none 0 0, .slice none 0 0, .slice none 0 0, .slice none 0 0, .slice none 0 0, .slice none 0 0, .slice none 0 0, .slice none 0 0, .slice none 0 0, .slice none 0 0, .slice none 0 0, .slice none 0 0, .int .i64 0] 19 :: bx (mx p (x.2 0) (x.2 1) (x.2 2) (x.2 3) (x.2 4) (x.2 5) (vL (vL vI) s.g.queue) (x.2 7) (x.2 8) (x.2 9) (x.2 10) (vI s.g.trap)) 19 :: x.1)) (fun x => CopyI h s s.r.length 0 x.1 x.2 ∧ x.2 6 = nilS) ?_ ?_
  · simp [-pwp_seq, new_box, app_box, len_box, cell_box, cell_box0, cells_box, cells_box0, store_box, store_box0, cellB_bx, cellsB_bx, storeB_bx, BodyK, resVs, resV, retV, box_all, cast_lit, wrap_1, wrap_2, wrap_3, wrap_4]
    refine loop_l (σ := Nat × Heap × (Nat → Value)) (fun x => [(1, ptr h.length), (2, ptr (h.length + 1)), (3, ptr (h.length + 2)), (4, vI x.1)]) (fun x => h ++ (bx (vSt p s) 19 :: bx [.int .i64 0, .int .i64 0, .int .i64 0, .slice none 0 0, .int .i64 0, .int .i64 0, .slice none 0 0, .slice none 0 0, .slice none 0 0, .slice none 0 0, .slice none 0 0, .slice none 0 0, .slice none 0 0, .slice none 0 0, .slice none 0 0, .slice none 0 0, .slice none 0 0, .slice none 0 0, .int .i64 0] 19 :: bx (mx p (x.2.2 0) (x.2.2 1) (x.2.2 2) (x.2.2 3) (x.2.2 4) (x.2.2 5) (vL (vL vI) s.g.queue) (x.2.2 7) (x.2.2 8) (x.2.2 9) (x.2.2 10) (vI s.g.trap)) 19 :: x.2.1)) (fun x => x.1 ≤ s.r.length ∧ CopyI h s x.1 0 x.2.1 x.2.2 ∧ x.2.2 6 = nilS) (fun x => s.r.length - x.1) (0, G0, v0) (by simp) (by simp [hv2]) ⟨by simp, C0, hv6⟩ ?_
    rintro ⟨i, g, v⟩ fr ⟨hi, C, h6⟩
    simp only at hi C h6 ⊢
    by_cases hlt : i < s.r.length
    · have hif : (i : Int) < s.r.length := by omega
      obtain ⟨i1, hi1, wi⟩ := wrap_next (show i < lim by have := hs.r; omega)
      have hr : s.r[i]? = some s.r[i] := List.getElem?_eq_getElem hlt
      obtain ⟨r, hrr⟩ : ∃ r, r = s.r[i] := ⟨_, rfl⟩
      rw [← hrr] at hr
      have hr4 := hs.r4 r (List.mem_of_getElem? hr)
      simp [new_box, app_box, len_box, cell_box, cell_box0, cells_box, cells_box0, store_box, store_box0, cellB_bx, cellsB_bx, storeB_bx, BodyK, resVs, resV, retV, box_all, cast_lit, wrap_1, wrap_2, wrap_3, wrap_4, -cellsOf_agg, vSt_len, vSt_take, vSt_of, vS_0, vS_1, vS_2, vS_3, vS_4, vS_5, vS_6, vS_7, vS_8, vS_9, vS_10, vS_11, vS_12, vS_13, vS_14, vS_15, vS_16, vS_17, vS_18, vIns_len, take_vIns, cellsOf_vIns, vN_0, vN_1, vN_2, vN_3, mx_t7, mx_t8, mx_t9, mx_t10, mx_t11, mx_t12, mx_t13, mx_t14, mx_t15, mx_t16, mx_t17, mx_t18, mx_len, mx_take, setAll_vSt, mx_s7, mx_g7, mx_s8, mx_g8, mx_s9, mx_g9, mx_s10, mx_g10, mx_s11, mx_g11, mx_s12, mx_g12, mx_s13, mx_g13, mx_s14, mx_g14, mx_s15, mx_g15, mx_s16, mx_g16, mx_s17, mx_g17, mx_s18, mx_g18, hif, hr]
      refine r4clone_call (by omega) fun x gx ax => ?_
      have O1 := OwnG.add' C.own (16 + 2 * i) rfl (C.r i (Nat.le_refl _)) ax
      have kx := acc_cell ax
      clear ax
      have sv2 := O1.stay 2
      rw [fset_ne (by omega)] at sv2
      simp [-pwp_seq, new_box, app_box, len_box, cell_box, cell_box0, cells_box, cells_box0, store_box, store_box0, cellB_bx, cellsB_bx, storeB_bx, BodyK, resVs, resV, retV, box_all, cast_lit, wrap_1, wrap_2, wrap_3, wrap_4, callK_def, -cellsOf_agg, vSt_len, vSt_take, vSt_of, vS_0, vS_1, vS_2, vS_3, vS_4, vS_5, vS_6, vS_7, vS_8, vS_9, vS_10, vS_11, vS_12, vS_13, vS_14, vS_15, vS_16, vS_17, vS_18, vIns_len, take_vIns, cellsOf_vIns, vN_0, vN_1, vN_2, vN_3, mx_t7, mx_t8, mx_t9, mx_t10, mx_t11, mx_t12, mx_t13, mx_t14, mx_t15, mx_t16, mx_t17, mx_t18, mx_len, mx_take, setAll_vSt, mx_s7, mx_g7, mx_s8, mx_g8, mx_s9, mx_g9, mx_s10, mx_g10, mx_s11, mx_g11, mx_s12, mx_g12, mx_s13, mx_g13, mx_s14, mx_g14, mx_s15, mx_g15, mx_s16, mx_g16, mx_s17, mx_g17, mx_s18, mx_g18, kx, sv2]
      refine O1.push 2 (x := x) (by simp) (by simp <;> omega) (fset_ne (by omega)).symm ?_ fun w g2 O2 kw => ?_
      · rw [fset_ne (by omega), want_2]
        simp [partM]; have := hs.r; omega
      rw [copy_r (w := w) hi1 hr] at O2
      have e0 : ∀ j, j < 16 → j ≠ 2 → fset (fset v (16 + 2 * i) x) 2 w j = v j := fun j h1 h2 => by rw [fset_ne h2, fset_ne (by omega)]
      simp [-pwp_seq, new_box, app_box, len_box, cell_box, cell_box0, cells_box, cells_box0, store_box, store_box0, cellB_bx, cellsB_bx, storeB_bx, BodyK, resVs, resV, retV, box_all, cast_lit, wrap_1, wrap_2, wrap_3, wrap_4, -cellsOf_agg, vSt_len, vSt_take, vSt_of, vS_0, vS_1, vS_2, vS_3, vS_4, vS_5, vS_6, vS_7, vS_8, vS_9, vS_10, vS_11, vS_12, vS_13, vS_14, vS_15, vS_16, vS_17, vS_18, vIns_len, take_vIns, cellsOf_vIns, vN_0, vN_1, vN_2, vN_3, mx_t7, mx_t8, mx_t9, mx_t10, mx_t11, mx_t12, mx_t13, mx_t14, mx_t15, mx_t16, mx_t17, mx_t18, mx_len, mx_take, setAll_vSt, mx_s7, mx_g7, mx_s8, mx_g8, mx_s9, mx_g9, mx_s10, mx_g10, mx_s11, mx_g11, mx_s12, mx_g12, mx_s13, mx_g13, mx_s14, mx_g14, mx_s15, mx_g15, mx_s16, mx_g16, mx_s17, mx_g17, mx_s18, mx_g18, kw, wi]
      refine .go (i1, g2, fset (fset v (16 + 2 * i) x) 2 w) (by simp only []; omega) (by simp) ?_ ⟨by simp only []; omega, ⟨O2, fun k hk => ?_, fun k hk => ?_⟩, ?_⟩
      · simp only [fset_same]
        rw [e0 0 (by omega) (by omega), e0 1 (by omega) (by omega), e0 3 (by omega) (by omega), e0 4 (by omega) (by omega), e0 5 (by omega) (by omega), e0 7 (by omega) (by omega), e0 8 (by omega) (by omega), e0 9 (by omega) (by omega), e0 10 (by omega) (by omega)]
      · simp only at hk ⊢
        rw [fset_ne (by omega), fset_ne (by omega)]; exact C.r k (by omega)
      · simp only
        rw [fset_ne (by omega), fset_ne (by omega)]; exact C.q k hk
      · simp only
        rw [e0 6 (by omega) (by omega)]; exact h6
    · obtain rfl : i = s.r.length := by omega
      simp [new_box, app_box, len_box, cell_box, cell_box0, cells_box, cells_box0, store_box, store_box0, cellB_bx, cellsB_bx, storeB_bx, BodyK, resVs, resV, retV, box_all, cast_lit, wrap_1, wrap_2, wrap_3, wrap_4, -cellsOf_agg, vSt_len, vSt_take, vSt_of, vS_0, vS_1, vS_2, vS_3, vS_4, vS_5, vS_6, vS_7, vS_8, vS_9, vS_10, vS_11, vS_12, vS_13, vS_14, vS_15, vS_16, vS_17, vS_18, vIns_len, take_vIns, cellsOf_vIns, vN_0, vN_1, vN_2, vN_3, mx_t7, mx_t8, mx_t9, mx_t10, mx_t11, mx_t12, mx_t13, mx_t14, mx_t15, mx_t16, mx_t17, mx_t18, mx_len, mx_take, setAll_vSt, mx_s7, mx_g7, mx_s8, mx_g8, mx_s9, mx_g9, mx_s10, mx_g10, mx_s11, mx_g11, mx_s12, mx_g12, mx_s13, mx_g13, mx_s14, mx_g14, mx_s15, mx_g15, mx_s16, mx_g16, mx_s17, mx_g17, mx_s18, mx_g18]
      exact .go (g, v) (by simp) rfl ⟨C, h6⟩
  · rintro ⟨g0', v0'⟩ fr ⟨C, h6⟩
    simp only at C h6 ⊢
    simp [-pwp_seq, new_box, app_box, len_box, cell_box, cell_box0, cells_box, cells_box0, store_box, store_box0, cellB_bx, cellsB_bx, storeB_bx, BodyK, resVs, resV, retV, box_all, cast_lit, wrap_1, wrap_2, wrap_3, wrap_4, -cellsOf_agg, vSt_len, vSt_take, vSt_of, vS_0, vS_1, vS_2, vS_3, vS_4, vS_5, vS_6, vS_7, vS_8, vS_9, vS_10, vS_11, vS_12, vS_13, vS_14, vS_15, vS_16, vS_17, vS_18, vIns_len, take_vIns, cellsOf_vIns, vN_0, vN_1, vN_2, vN_3, mx_t7, mx_t8, mx_t9, mx_t10, mx_t11, mx_t12, mx_t13, mx_t14, mx_t15, mx_t16, mx_t17, mx_t18, mx_len, mx_take, setAll_vSt, mx_s7, mx_g7, mx_s8, mx_g8, mx_s9, mx_g9, mx_s10, mx_g10, mx_s11, mx_g11, mx_s12, mx_g12, mx_s13, mx_g13, mx_s14, mx_g14, mx_s15, mx_g15, mx_s16, mx_g16, mx_s17, mx_g17, mx_s18, mx_g18]
    refine seq_l (σ := Heap × (Nat → Value)) (fun x => [(1, ptr h.length), (2, ptr (h.length + 1)), (3, ptr (h.length + 2))]) (fun x => h ++ (bx (vSt p s) 19 :: bx [.int .i64 0, .int .i64 0, .int .i64 0, .slice none 0 0, .int .i64 0, .int .i64 0, .slice none 0 0, .slice none 0 0, .slice none 0 0, .slice none 0 0, .slice none 0 0, .slice none 0 0, .slice none 0 0, .slice none 0 0, .slice none 0 0, .slice none 0 0, .slice none 0 0, .slice none 0 0, .int .i64 0] 19 :: bx (mx p (x.2 0) (x.2 1) (x.2 2) (x.2 3) (x.2 4) (x.2 5) (x.2 6) (x.2 7) (x.2 8) (x.2 9) (x.2 10) (vI s.g.trap)) 19 :: x.1)) (fun x => CopyI h s s.r.length s.g.queue.length x.1 x.2) ?_ ?_
    · simp [-pwp_seq, new_box, app_box, len_box, cell_box, cell_box0, cells_box, cells_box0, store_box, store_box0, cellB_bx, cellsB_bx, storeB_bx, BodyK, resVs, resV, retV, box_all, cast_lit, wrap_1, wrap_2, wrap_3, wrap_4]
      refine loop_l (σ := Nat × Heap × (Nat → Value)) (fun x => [(1, ptr h.length), (2, ptr (h.length + 1)), (3, ptr (h.length + 2)), (5, vI x.1)]) (fun x => h ++ (bx (vSt p s) 19 :: bx [.int .i64 0, .int .i64 0, .int .i64 0, .slice none 0 0, .int .i64 0, .int .i64 0, .slice none 0 0, .slice none 0 0, .slice none 0 0, .slice none 0 0, .slice none 0 0, .slice none 0 0, .slice none 0 0, .slice none 0 0, .slice none 0 0, .slice none 0 0, .slice none 0 0, .slice none 0 0, .int .i64 0] 19 :: bx (mx p (x.2.2 0) (x.2.2 1) (x.2.2 2) (x.2.2 3) (x.2.2 4) (x.2.2 5) (x.2.2 6) (x.2.2 7) (x.2.2 8) (x.2.2 9) (x.2.2 10) (vI s.g.trap)) 19 :: x.2.1)) (fun x => x.1 ≤ s.g.queue.length ∧ CopyI h s s.r.length x.1 x.2.1 x.2.2) (fun x => s.g.queue.length - x.1) (0, g0', v0') (by simp) (by simp [h6]) ⟨by simp, C⟩ ?_
      clear C h6 fr
      rintro ⟨i, g, v⟩ fr ⟨hi, C⟩
      simp only at hi C ⊢
      by_cases hlt : i < s.g.queue.length
      · have hif : (i : Int) < s.g.queue.length := by omega
        obtain ⟨i1, hi1, wi⟩ := wrap_next (show i < lim by have := hs.queue; omega)
        have hr : s.g.queue[i]? = some s.g.queue[i] := List.getElem?_eq_getElem hlt
        obtain ⟨r, hrr⟩ : ∃ r, r = s.g.queue[i] := ⟨_, rfl⟩
        rw [← hrr] at hr
        have hr4 := hl r (List.mem_of_getElem? hr)
        simp [new_box, app_box, len_box, cell_box, cell_box0, cells_box, cells_box0, store_box, store_box0, cellB_bx, cellsB_bx, storeB_bx, BodyK, resVs, resV, retV, box_all, cast_lit, wrap_1, wrap_2, wrap_3, wrap_4, -cellsOf_agg, vSt_len, vSt_take, vSt_of, vS_0, vS_1, vS_2, vS_3, vS_4, vS_5, vS_6, vS_7, vS_8, vS_9, vS_10, vS_11, vS_12, vS_13, vS_14, vS_15, vS_16, vS_17, vS_18, vIns_len, take_vIns, cellsOf_vIns, vN_0, vN_1, vN_2, vN_3, mx_t7, mx_t8, mx_t9, mx_t10, mx_t11, mx_t12, mx_t13, mx_t14, mx_t15, mx_t16, mx_t17, mx_t18, mx_len, mx_take, setAll_vSt, mx_s7, mx_g7, mx_s8, mx_g8, mx_s9, mx_g9, mx_s10, mx_g10, mx_s11, mx_g11, mx_s12, mx_g12, mx_s13, mx_g13, mx_s14, mx_g14, mx_s15, mx_g15, mx_s16, mx_g16, mx_s17, mx_g17, mx_s18, mx_g18, hif, hr]
        refine r4clone_call (by omega) fun x gx ax => ?_
        have O1 := OwnG.add' C.own (17 + 2 * i) rfl (C.q i (Nat.le_refl _)) ax
        have kx := acc_cell ax
        clear ax
        have sv2 := O1.stay 6
        rw [fset_ne (by omega)] at sv2
        simp [-pwp_seq, new_box, app_box, len_box, cell_box, cell_box0, cells_box, cells_box0, store_box, store_box0, cellB_bx, cellsB_bx, storeB_bx, BodyK, resVs, resV, retV, box_all, cast_lit, wrap_1, wrap_2, wrap_3, wrap_4, callK_def, -cellsOf_agg, vSt_len, vSt_take, vSt_of, vS_0, vS_1, vS_2, vS_3, vS_4, vS_5, vS_6, vS_7, vS_8, vS_9, vS_10, vS_11, vS_12, vS_13, vS_14, vS_15, vS_16, vS_17, vS_18, vIns_len, take_vIns, cellsOf_vIns, vN_0, vN_1, vN_2, vN_3, mx_t7, mx_t8, mx_t9, mx_t10, mx_t11, mx_t12, mx_t13, mx_t14, mx_t15, mx_t16, mx_t17, mx_t18, mx_len, mx_take, setAll_vSt, mx_s7, mx_g7, mx_s8, mx_g8, mx_s9, mx_g9, mx_s10, mx_g10, mx_s11, mx_g11, mx_s12, mx_g12, mx_s13, mx_g13, mx_s14, mx_g14, mx_s15, mx_g15, mx_s16, mx_g16, mx_s17, mx_g17, mx_s18, mx_g18, kx, sv2]
        refine O1.push 6 (x := x) (by simp) (by simp <;> omega) (fset_ne (by omega)).symm ?_ fun w g2 O2 kw => ?_
        · rw [fset_ne (by omega), want_6]
          simp [partM]; have := hs.queue; omega
        rw [copy_q (w := w) hi1 hr] at O2
        have e0 : ∀ j, j < 16 → j ≠ 6 → fset (fset v (17 + 2 * i) x) 6 w j = v j := fun j h1 h2 => by rw [fset_ne h2, fset_ne (by omega)]
        simp [-pwp_seq, new_box, app_box, len_box, cell_box, cell_box0, cells_box, cells_box0, store_box, store_box0, cellB_bx, cellsB_bx, storeB_bx, BodyK, resVs, resV, retV, box_all, cast_lit, wrap_1, wrap_2, wrap_3, wrap_4, -cellsOf_agg, vSt_len, vSt_take, vSt_of, vS_0, vS_1, vS_2, vS_3, vS_4, vS_5, vS_6, vS_7, vS_8, vS_9, vS_10, vS_11, vS_12, vS_13, vS_14, vS_15, vS_16, vS_17, vS_18, vIns_len, take_vIns, cellsOf_vIns, vN_0, vN_1, vN_2, vN_3, mx_t7, mx_t8, mx_t9, mx_t10, mx_t11, mx_t12, mx_t13, mx_t14, mx_t15, mx_t16, mx_t17, mx_t18, mx_len, mx_take, setAll_vSt, mx_s7, mx_g7, mx_s8, mx_g8, mx_s9, mx_g9, mx_s10, mx_g10, mx_s11, mx_g11, mx_s12, mx_g12, mx_s13, mx_g13, mx_s14, mx_g14, mx_s15, mx_g15, mx_s16, mx_g16, mx_s17, mx_g17, mx_s18, mx_g18, kw, wi]
        refine .go (i1, g2, fset (fset v (17 + 2 * i) x) 6 w) (by simp only []; omega) (by simp) ?_ ⟨by simp only []; omega, ⟨O2, fun k hk => ?_, fun k hk => ?_⟩⟩
        · simp only [fset_same]
          rw [e0 0 (by omega) (by omega), e0 1 (by omega) (by omega), e0 2 (by omega) (by omega), e0 3 (by omega) (by omega), e0 4 (by omega) (by omega), e0 5 (by omega) (by omega), e0 7 (by omega) (by omega), e0 8 (by omega) (by omega), e0 9 (by omega) (by omega), e0 10 (by omega) (by omega)]
        · simp only
          rw [fset_ne (by omega), fset_ne (by omega)]; exact C.r k hk
        · simp only at hk ⊢
          rw [fset_ne (by omega), fset_ne (by omega)]; exact C.q k (by omega)
      · obtain rfl : i = s.g.queue.length := by omega
        simp [new_box, app_box, len_box, cell_box, cell_box0, cells_box, cells_box0, store_box, store_box0, cellB_bx, cellsB_bx, storeB_bx, BodyK, resVs, resV, retV, box_all, cast_lit, wrap_1, wrap_2, wrap_3, wrap_4, -cellsOf_agg, vSt_len, vSt_take, vSt_of, vS_0, vS_1, vS_2, vS_3, vS_4, vS_5, vS_6, vS_7, vS_8, vS_9, vS_10, vS_11, vS_12, vS_13, vS_14, vS_15, vS_16, vS_17, vS_18, vIns_len, take_vIns, cellsOf_vIns, vN_0, vN_1, vN_2, vN_3, mx_t7, mx_t8, mx_t9, mx_t10, mx_t11, mx_t12, mx_t13, mx_t14, mx_t15, mx_t16, mx_t17, mx_t18, mx_len, mx_take, setAll_vSt, mx_s7, mx_g7, mx_s8, mx_g8, mx_s9, mx_g9, mx_s10, mx_g10, mx_s11, mx_g11, mx_s12, mx_g12, mx_s13, mx_g13, mx_s14, mx_g14, mx_s15, mx_g15, mx_s16, mx_g16, mx_s17, mx_g17, mx_s18, mx_g18]
        exact .go (g, v) (by simp) rfl C
    · rintro ⟨g, v⟩ fr C
      simp only at C ⊢
      have hw : partM s s.r.length s.g.queue.length = s := by unfold partM; rw [List.take_length, List.take_length]
      have ho := C.own
      rw [hw] at ho
      have hmx : mx p (v 0) (v 1) (v 2) (v 3) (v 4) (v 5) (v 6) (v 7) (v 8) (v 9) (v 10) (vI s.g.trap) = cS p s v := rfl
      rw [hmx]
      have hc := cS_of (p := p) (s := s) (v := v) fun j => (ho .hole .hole .hole).like j
      simp [new_box, app_box, len_box, cell_box, cell_box0, cells_box, cells_box0, store_box, store_box0, cellB_bx, cellsB_bx, storeB_bx, BodyK, resVs, resV, retV, box_all, cast_lit, wrap_1, wrap_2, wrap_3, wrap_4, -cellsOf_agg, vSt_len, vSt_take, vSt_of, vS_0, vS_1, vS_2, vS_3, vS_4, vS_5, vS_6, vS_7, vS_8, vS_9, vS_10, vS_11, vS_12, vS_13, vS_14, vS_15, vS_16, vS_17, vS_18, vIns_len, take_vIns, cellsOf_vIns, vN_0, vN_1, vN_2, vN_3, cS_len, cS_take, setAll_cS, cS_g0, cS_g3, cS_g6, cS_g7, cS_g8, cS_g9, cS_g10, cS_g11, cS_g12, cS_g13, cS_g14, cS_g15, cS_g16, cS_g17, cS_g18, cS_t18, cS_t17, hc]
      exact hk v _ ((ho _ _ _).weak (by omega))
end
end Pm
