/- Instructions: what each is,by the program's table; the registers that one sets or uses.
   No condition: plain lemmas. -/
import Derived.Test.YtmdnkninbkcmkaaZSPmBox
import Derived.Test.YtmdnkninbkcmkaaZSPmCfgC
import Derived.Test.YtmdnkninbkcmkaaZSPmCfg3
namespace Pm
set_option linter.unusedSimpArgs false
set_option linter.unusedVariables false
open Go Am
open Go.Proofs.Try (prog)

def nameL : List (List Nat) := [[110,111,112],[99,111,110,115,116],[109,111,118,101],[97,100,100],[115,117,98],[109,117,108],[108,101,115,115],[108,111,97,100],[115,116,111,114,101],[112,114,105,110,116],[106,117,109,112],[122,101,114,111],[103,111],[108,111,99,107],[117,110,108,111,99,107],[114,108,111,99,107],[114,117,110,108,111,99,107],[114,101,97,100],[119,114,105,116,101],[98,117,109,112],[115,101,110,100],[114,101,99,118],[112,111,108,108],[99,108,111,115,101],[103,114,111,119],[119,97,105,116],[98,101,103,105,110],[101,110,100]]
def nameOf (op : Nat) : ByteArray := ⟨((nameL[op]?.getD []).map UInt8.ofNat).toArray⟩
def qJb : Nat → List Nat
  | 1 => [2,1,0] | 2 => [2,3,0] | 3 => [2,3,3] | 4 => [2,3,3] | 5 => [2,3,3] | 6 => [2,3,3] | 7 => [2,4,0] | 8 => [4,3,0] | 9 => [3,0,0] | 10 => [5,0,0] | 11 => [3,5,0] | 12 => [6,0,0]
  | 13 => [7,0,0] | 14 => [7,0,0] | 15 => [7,0,0] | 16 => [7,0,0] | 17 => [2,8,0] | 18 => [8,3,0] | 19 => [2,8,3] | 20 => [9,3,0] | 21 => [2,9,0] | 22 => [2,9,2] | 23 => [9,0,0] | 24 => [10,1,0]
  | 25 => [10,0,0] | 26 => [2,11,0] | 27 => [11,0,0] | _ => [0,0,0]
def plainOp (op : Nat) : Bool := decide (op ≤ 8)
def qVs (op : Nat) : Bool := [13,15,17,19,20,21,22,25,26].contains op
def qIu (op : Nat) : Bool := [12,14,16,18,19,20,21,22,23,24,27].contains op
def qCv (op k : Nat) : Nat := (qJb op)[k]?.getD 0
def qDx (op : Nat) : List Value := if op < 28 then [.string (nameOf op),v8 (qCv op 0),v8 (qCv op 1),v8 (qCv op 2),.bool (plainOp op),.bool (qVs op),.bool (qIu op)] else [.string ⟨#[]⟩,v8 0,v8 0,v8 0,.bool false,.bool false,.bool false]
instance : Flat qDx 7 := ⟨fun x => by unfold qDx; split <;> rfl⟩
def qNt : List Nat := List.range 28

set_option maxRecDepth 100000 in
theorem shapes_pure : Pure prog 123 [] (.agg (qNt.flatMap qDx).toArray) :=
  closed_run (by kernel_rfl) (tab := tput 123 (qCn c_shapes) (tput 127 (qCn c_shapes1) (tput 128 (qCn c_shapes2) tnil)))
    (qRg.put (qRg.put (qRg.put .nil (by kernel_rfl) c_shapes2_is) (by kernel_rfl) c_shapes1_is) (by kernel_rfl) c_shapes_is)
    (fn := fun f => Nat.beq f 127 || Nat.beq f 128) (by
      intro f hf
      rcases Bool.or_eq_true_iff.1 hf with h | h
      · rw [Nat.eq_of_beq_eq_true h]; kernel_rfl
      · rw [Nat.eq_of_beq_eq_true h]; kernel_rfl) (k := 10) (n := 5) (by kernel_rfl)

theorem closed_shape (op : Nat) : (qDx op).all qCo = true := by unfold qDx; split <;> rfl
theorem qOk (op : Nat) : (qDx op).all cellLike = true := by unfold qDx; split <;> rfl
theorem cell_shapes : (qNt.flatMap qDx).all cellLike = true := by
  rw [List.all_eq_true]
  intro c hc
  obtain ⟨x,_,hx⟩ := List.mem_flatMap.1 hc
  exact List.all_eq_true.1 (qOk x) c hx

section
variable {h : Heap} {K : Value → Heap → Prop}
theorem irOf_call {op : Nat} (ho : op ≤ 255) (hk : K (.tuple #[.agg (qDx op).toArray,.bool (decide (op < 28))]) h) : qBo prog 105 [v8 op] h K := by
  refine qBo.forget ?_
  refine call_irOf (by simp) ?_
  have w : IntKind.i64.wrap (op : Int) = op := qCu (by omega) (by omega)
  obtain ⟨zr,hzr⟩ : ∃ r : Row,r = ⟨[.string ⟨#[]⟩,.int .u8 0,.int .u8 0,.int .u8 0,.bool false,.bool false,.bool false],7,0,true⟩ := ⟨_,rfl⟩
  have hz196 : z196.length = 196 := by decide +kernel
  have r0 : RowV (Am.newRow h zr.cells 7) h.length 0 7 zr.cells := .new
  have r1 : RowV (Am.newRow (Am.newRow h zr.cells 7) z196 7) (h.length + 1) 0 7 z196 := by have := RowV.new (h := Am.newRow h zr.cells 7) (z := z196) (esz := 7); rw [len_new] at this; exact this
  obtain ⟨H2,s2,r2,e2⟩ := r1.store hz196 (cs := qNt.flatMap qDx) (by rw [qIe (e := 7) Flat.len]; rfl) cell_shapes
  have r2' : RowM 7 qDx H2 (h.length + 1) 0 7 qNt := r2
  have r02 : RowV H2 h.length 0 7 zr.cells := (r0.old (e := 7)).same e2 (by omega)
  have k2 : qCt h.length h H2 := (qCt.new (qCt.new (.refl _ _) (Nat.le_refl _) zr.cells 7) (Nat.le_refl _) z196 7).trans (e2.keeps (by omega))
  have hzc : zr.cells = [.string ⟨#[]⟩,.int .u8 0,.int .u8 0,.int .u8 0,.bool false,.bool false,.bool false] := by rw [hzr]
  obtain ⟨H3,s3,r3,e3⟩ := r02.store (n := 7) (by rw [hzc]; rfl) (cs := qDx op) (Flat.len op) (qOk op)
  have k3 : qCt h.length h H3 := k2.trans (e3.keeps (Nat.le_refl _))
  have hfin : (∃ g,H3 = h ++ g) ∧ ∃ p,Inl h.length H3 (.tuple #[.agg (qDx op).toArray,.bool (decide (op < 28))]) p ∧ K p h :=
    ⟨k3.ext,_,Inls.tup (xs := [.agg (qDx op).toArray,.bool (decide (op < 28))]) (ys := [.agg (qDx op).toArray,.bool (decide (op < 28))]) ⟨.self (closed_shape op),.cell rfl,trivial⟩,hk⟩
  have hres := r3.cells (n := 7) (Flat.len op).symm
  simp [qWj]
  rw [← hzc]
  refine shapes_pure.go ?_
  simp [callK_def,len_new,s2]
  by_cases h28 : op < 28
  · have c1 : ¬ (28 : Int) ≤ op := by omega
    have c2 : (op : Int) < 28 := by omega
    have hop : qNt[op]? = some op := by simp [qNt,h28]
    have hcl := r2'.cells hop
    rw [decide_eq_true h28] at hfin
    simp [w,c1,c2,hcl,s3,hres,qAu,qAv,resV,retV]
    exact hfin
  · have c1 : (28 : Int) ≤ op := by omega
    have hsh : qDx op = zr.cells := by unfold qDx; rw [if_neg h28,hzc]; rfl
    rw [decide_eq_false h28] at hfin
    rw [hsh] at s3 hres hfin
    simp [w,c1,s3,hres,qAu,qAv,resV,retV]
    exact hfin
def qLe (w : Nat) (i : Ins) (n : Nat) : Nat := (List.range n).foldl (fun s k => if qCv i.op k = w then s ||| bitN ([i.a,i.b,i.c][k]?.getD 0) else s) 0
def qPq (i : Ins) : Nat := qLe 2 i 3
def qTk (i : Ins) : Nat := qLe 3 i 3
theorem regsOf_succ (w : Nat) (i : Ins) (n : Nat) : qLe w i (n + 1) = if qCv i.op n = w then qLe w i n ||| bitN ([i.a,i.b,i.c][n]?.getD 0) else qLe w i n := by
  simp [qLe,List.range_succ]
theorem qPu (w : Nat) (i : Ins) : ∀ n,qLe w i n < big
  | 0 => by simp [qLe]
  | n + 1 => by
    rw [regsOf_succ]
    split
    · exact qWx (qPu w i n) (qMs _)
    · exact qPu w i n
end
end Pm

/- Instructions,by the document: the row of each,the registers.
   No condition: plain lemmas. -/
namespace Pm
set_option linter.unusedSimpArgs false
set_option linter.unusedVariables false
open Go Am
open Go.Proofs.Try (prog)

theorem hasB_and {s : Nat} {i : Int} : decide (s &&& bitN i = 0) = !hasB s i := by
  by_cases h : 0 ≤ i ∧ i < 64
  · obtain ⟨n,rfl⟩ : ∃ n : Nat,i = n := ⟨i.toNat,by omega⟩
    rw [qPk (by omega)]
    have e : bitN (n : Int) = 2 ^ n := by simp [bitN]; omega
    have e2 : s &&& 2 ^ n = if s.testBit n then 2 ^ n else 0 := by
      apply Nat.eq_of_testBit_eq
      intro j
      rw [Nat.testBit_and,Nat.testBit_two_pow]
      by_cases hj : n = j
      · subst hj
        cases hb : s.testBit n <;> simp
      · cases hb : s.testBit n <;> simp [hj,Nat.testBit_two_pow]
    rw [e,e2]
    cases s.testBit n with
    | false => simp
    | true =>
      have := Nat.two_pow_pos n
      simp
  · have e : bitN i = 0 := by unfold bitN; rw [if_neg h]
    have e2 : hasB s i = false := by
      unfold hasB
      by_cases h0 : 0 ≤ i
      · have : ¬ i < 64 := fun k => h ⟨h0,k⟩
        simp [this]
      · simp [h0]
    simp [e,e2]
theorem one_list {h : Heap} {l : List Int} {cs : List Value} {n k : Nat} (hn : n = l.length) (hk : k = h.length) (hc : cs = l.map vI) : qCt h.length h (h ++ [bx cs 1]) ∧ AccL vI h.length (h ++ [bx cs 1]) (.slice (some ⟨k,0,none⟩) n 0) l :=
  ⟨.app,by subst hn hk hc; exact .inr ⟨_,0,rfl,Nat.le_refl _,by simp [bx],by simp⟩⟩
def rowL (op : Nat) : List Int := (qJb op).map fun x : Nat => (x : Int)
section
variable {h : Heap} {K : Value → Heap → Prop}
theorem bHas_call {s : Nat} {i : Int} (hs : s < big) (hk : K (.bool (hasB s i)) h) : qBo prog 72 [vU s,vI i] h K := by
  refine call_bHas (by simp) ?_
  simp [qWk]
  refine bit_call ?_
  have e := qTg hs (qMs i)
  have e2 := hasB_and (s := s) (i := i)
  obtain ⟨x,hx⟩ : ∃ x,x = s &&& bitN i := ⟨_,rfl⟩
  rw [← hx] at e e2
  have e3 : (decide ((x : Int) = 0)) = !hasB s i := by rw [← e2]; by_cases h0 : x = 0 <;> simp [h0]
  have e4 : hasB s i = !decide ((x : Int) = 0) := by rw [e3]; simp
  rw [e4] at hk
  by_cases h0 : (x : Int) = 0
  · simp [callK_def,e,h0,qAu,qAv,resV,retV] at hk ⊢
    exact hk
  · simp [callK_def,e,h0,qAu,qAv,resV,retV] at hk ⊢
    exact hk
set_option maxHeartbeats 4000000 in
theorem R2row_pure (op : Nat) : Pure prog 76 [v8 op] (vL vI (rowL op)) := by
  refine Pure.list (fun _ => rfl) fun h => ?_
  refine call_R2row (by simp) ?_
  by_cases h28 : op < 28
  · have hc : op = 0 ∨ op = 1 ∨ op = 2 ∨ op = 3 ∨ op = 4 ∨ op = 5 ∨ op = 6 ∨ op = 7 ∨ op = 8 ∨ op = 9 ∨ op = 10 ∨ op = 11 ∨ op = 12 ∨ op = 13 ∨ op = 14 ∨ op = 15 ∨ op = 16 ∨ op = 17 ∨ op = 18 ∨ op = 19 ∨ op = 20 ∨ op = 21 ∨ op = 22 ∨ op = 23 ∨ op = 24 ∨ op = 25 ∨ op = 26 ∨ op = 27 := by omega
    rcases hc with rfl | rfl | rfl | rfl | rfl | rfl | rfl | rfl | rfl | rfl | rfl | rfl | rfl | rfl | rfl | rfl | rfl | rfl | rfl | rfl | rfl | rfl | rfl | rfl | rfl | rfl | rfl | rfl <;>
    · simp [qAl,qAo,qAm,qAi,qAf,qAe,qAb,qAc,qAa,qAj,qAg,qAd,qAu,qAv,resV,retV,qAn,qAh,qAs,qAr,qAq,qAp,qTa]
      exact one_list (l := [_,_,_]) rfl rfl rfl
  · have hr : rowL op = [0,0,0] := by unfold rowL qJb; split <;> first | omega | rfl
    rw [hr]
    have n0 : ¬ op = 0 := by omega
    have n1 : ¬ op = 1 := by omega
    have n2 : ¬ op = 2 := by omega
    have n3 : ¬ op = 3 := by omega
    have n4 : ¬ op = 4 := by omega
    have n5 : ¬ op = 5 := by omega
    have n6 : ¬ op = 6 := by omega
    have n7 : ¬ op = 7 := by omega
    have n8 : ¬ op = 8 := by omega
    have n9 : ¬ op = 9 := by omega
    have n10 : ¬ op = 10 := by omega
    have n11 : ¬ op = 11 := by omega
    have n12 : ¬ op = 12 := by omega
    have n13 : ¬ op = 13 := by omega
    have n14 : ¬ op = 14 := by omega
    have n15 : ¬ op = 15 := by omega
    have n16 : ¬ op = 16 := by omega
    have n17 : ¬ op = 17 := by omega
    have n18 : ¬ op = 18 := by omega
    have n19 : ¬ op = 19 := by omega
    have n20 : ¬ op = 20 := by omega
    have n21 : ¬ op = 21 := by omega
    have n22 : ¬ op = 22 := by omega
    have n23 : ¬ op = 23 := by omega
    have n24 : ¬ op = 24 := by omega
    have n25 : ¬ op = 25 := by omega
    have n26 : ¬ op = 26 := by omega
    have n27 : ¬ op = 27 := by omega
    simp [qAl,qAo,qAm,qAi,qAf,qAe,qAb,qAc,qAa,qAj,qAg,qAd,qAu,qAv,resV,retV,qAn,qAh,qAs,qAr,qAq,qAp,qTa,n0,n1,n2,n3,n4,n5,n6,n7,n8,n9,n10,n11,n12,n13,n14,n15,n16,n17,n18,n19,n20,n21,n22,n23,n24,n25,n26,n27]
    exact one_list (l := [_,_,_]) rfl rfl rfl
theorem R2num_pure (i : Ins) : Pure prog 77 [.agg (vIns i).toArray] (vL vI [i.a,i.b,i.c]) := by
  refine Pure.list (fun _ => rfl) fun h => ?_
  refine call_R2num (by simp) ?_
  simp [qAl,qAo,qAm,qAi,qAf,qAe,qAb,qAc,qAa,qAj,qAg,qAd,qAu,qAv,resV,retV,qAn,qAh,qAs,qAr,qAq,qAp,qUr,vIns]
  exact ⟨(qCt.app (g := [_,_])),.inr ⟨_,0,rfl,by simp,by simp [bx],by simp⟩⟩
theorem rowL_at {op k : Nat} (hk : k < 3) : (rowL op)[k]? = some (qCv op k : Int) := by
  have hl : (qJb op).length = 3 := by unfold qJb; split <;> rfl
  unfold rowL qCv
  rw [List.getElem?_map,List.getElem?_eq_getElem (by omega)]
  simp
end
end Pm
