/- Stores that none can read: small functions.
   No condition: plain lemmas. -/

import Derived.Test.YtmdnkninbkcmkaaZSPmEdit
import Derived.Test.YtmdnkninbkcmkaaZSPmCfgC
import Derived.Test.YtmdnkninbkcmkaaZSPmWay
namespace Pm
set_option linter.unusedSimpArgs false
set_option linter.unusedVariables false
open Go Am
open Go.Proofs.Try (prog)

theorem relOp_iff {op : Nat} : qIu op = true ↔ op = 12 ∨ op = 14 ∨ op = 16 ∨ (18 ≤ op ∧ op ≤ 24) ∨ op = 27 := by
  unfold qIu
  simp only [List.contains_iff_mem,List.mem_cons,List.not_mem_nil,or_false]
  omega
section
variable {h : Heap} {K : Value → Heap → Prop}
theorem irRel_call {op : Nat} (ho : op ≤ 255) (hk : K (vB (qIu op)) h) : qBo prog 91 [v8 op] h K := by
  refine Pure.go (Pure.one (p := vB (qIu op)) rfl fun h => ?_) hk
  refine call_irRel (by simp) ?_
  simp [qAl,qAo,qAm,qAi,qAf,qAe,qAb,qAc,qAa,qAj,qAg,qAd,qAu,qAv,resV,retV,qAn,qAh,qAs,qAr,qAq,qAp,qUp]
  refine irOf_call ho ?_
  have hc : cellsOf (.agg (qDx op).toArray) = some (qDx op) := by
    simp only [qAk]
    rw [if_pos (by simpa using qOk op)]
  have hl : (qDx op).length = 7 := by unfold qDx; split <;> rfl
  have hs : ∀ a b c d e f g : Value,setAll [a,b,c,d,e,f,g] 0 (qDx op) = qDx op := fun a b c d e f g => by unfold qDx; split <;> rfl
  have h6 : ∀ hh,(qDx op)[6]'hh = vB (qIu op) := by
    unfold qDx
    split
    · intro _; rfl
    · intro _
      have : qIu op = false := by
        cases hr : qIu op with
        | false => rfl
        | true => rw [relOp_iff] at hr; omega
      rw [this]; rfl
  simp [qAl,qAo,qAm,qAi,qAf,qAe,qAb,qAc,qAa,qAj,qAg,qAd,qAu,qAv,resV,retV,qAn,qAh,qAs,qAr,qAq,qAp,-qAk,callK_def,hc,hl,hs,h6]
end
end Pm

/- Stores that none can read: what is needed,the program's solution.
   No condition: plain lemmas. -/

namespace Pm
set_option linter.unusedSimpArgs false
set_option linter.unusedVariables false
open Go Am
open Go.Proofs.Try (prog)

def askN (c : Ins) : Nat := if qIu c.op = true then 255 else if c.op = 7 then bitN c.b &&& 255 else 0
def qKr (c : Ins) : Nat := if c.op = 8 then bitN c.a else 0
theorem askN_lt (c : Ins) : askN c < big := by
  unfold askN; split
  · decide
  · split
    · exact and_lt (qMs _)
    · decide
theorem killN_lt (c : Ins) : qKr c < big := by
  unfold qKr; split
  · exact qMs _
  · decide
theorem bit_255 (r : Nat) : (255 : Nat).testBit r = decide (r < 8) := Nat.testBit_two_pow_sub_one 8 r
theorem bitN_bit (i : Int) (r : Nat) : (bitN i).testBit r = (decide (i = (r : Int)) && decide (r < 64)) := by
  unfold bitN
  split
  · rename_i h
    rw [Nat.testBit_two_pow]
    by_cases e : i = (r : Int)
    · have : i.toNat = r := by omega
      have : r < 64 := by omega
      simp [*]
    · have : ¬ i.toNat = r := by omega
      simp [*]
  · rename_i h
    rw [Nat.zero_testBit]
    by_cases e : i = (r : Int)
    · have : ¬ r < 64 := by omega
      simp [*]
    · simp [e]
def qTz (x : Nat) (c : Ins) : Bool := qIu c.op || (decide (c.op = 7) && decide (c.b = (x : Int)))
def lays (x : Nat) (c : Ins) : Bool := decide (c.op = 8) && decide (c.a = (x : Int))
theorem askN_bit (c : Ins) (x : Nat) : (askN c).testBit x = (decide (x < 8) && qTz x c) := by
  unfold askN qTz
  by_cases h : qIu c.op = true
  · rw [if_pos h,bit_255,h]; simp
  · rw [if_neg h]
    have h' : qIu c.op = false := by simpa using h
    rw [h']
    by_cases h7 : c.op = 7
    · rw [if_pos h7,Nat.testBit_and,bit_255,bitN_bit]
      by_cases hx : x < 8
      · have : x < 64 := by omega
        simp [h7,hx,this]
      · simp [hx]
    · rw [if_neg h7]; simp [h7]
theorem killN_bit (c : Ins) (x : Nat) (hx : x < 64) : (qKr c).testBit x = lays x c := by
  unfold qKr lays
  by_cases h8 : c.op = 8
  · rw [if_pos h8,bitN_bit]; simp [h8,hx]
  · rw [if_neg h8]; simp [h8]
abbrev Nd (code : List Ins) (x : Nat) : Nat → Prop := Wy askN qKr code x
theorem Nd.low8 {code : List Ins} {x i : Nat} (h : Nd code x i) : x < 8 := by
  induction h with
  | @use i c hc hu => rw [askN_bit] at hu; simp at hu; exact hu.1
  | pass _ _ _ _ ih => exact ih
theorem qRz {code : List Ins} {x i : Nat} {c : Ins} (hx : x < 8) (hc : code[i]? = some c) : Nd code x i ↔ qTz x c = true ∨ lays x c = false ∧ ∃ j : Nat,(j : Int) ∈ qDd i c ∧ Nd code x j := by
  show Wy askN qKr code x i ↔ _
  rw [Wy.step hc,askN_bit,killN_bit c x (by omega)]
  simp [hx]
section
variable {h : Heap} {K : Value → Heap → Prop}
theorem with_one (i : Int) : qQx 0 [i] = bitN i := by show 0 ||| bitN i = _; simp
theorem sAsks_call {c : Ins} (ho : c.op ≤ 255) (hk : K (vU (askN c)) h) : qBo prog 79 [.agg (vIns c).toArray] h K := by
  refine Pure.go (Pure.one (p := vU (askN c)) rfl fun h => ?_) hk
  refine call_sAsks (by simp) ?_
  simp [qAl,qAo,qAm,qAi,qAf,qAe,qAb,qAc,qAa,qAj,qAg,qAd,qAu,qAv,resV,retV,qAn,qAh,qAs,qAr,qAq,qAp,qUm,-qAk,qBf,qBb,qAy,qCp]
  refine All_call (n := 8) (by omega) ?_
  simp [-qAx,qAl,qAo,qAm,qAi,qAf,qAe,qAb,qAc,qAa,qAj,qAg,qAd,qAu,qAv,resV,retV,qAn,qAh,qAs,qAr,qAq,qAp,callK_def,vIns]
  rw [qAx]
  simp [-qAx,qAl,qAo,qAm,qAi,qAf,qAe,qAb,qAc,qAa,qAj,qAg,qAd,qAu,qAv,resV,retV,qAn,qAh,qAs,qAr,qAq,qAp]
  refine irRel_call ho ?_
  have e8 : allN 8 = 255 := rfl
  cases hr : qIu c.op with
  | true =>
    have e : askN c = 255 := by unfold askN; rw [if_pos hr]
    simp [qAl,qAo,qAm,qAi,qAf,qAe,qAb,qAc,qAa,qAj,qAg,qAd,qAu,qAv,resV,retV,qAn,qAh,qAs,qAr,qAq,qAp,callK_def,e,e8]
  | false =>
    by_cases h7 : c.op = 7
    · have e : askN c = bitN c.b &&& 255 := by unfold askN; rw [if_neg (by simp [hr]),if_pos h7]
      have hfz : ∀ z : List Value,frzV (h ++ [bx z 4,bx [vI c.b] 1]) 1 (.slice (some ⟨h.length + 1,0,none⟩) 1 0) = some (vL vI [c.b],h ++ [bx z 4,.row ⟨[vI c.b],1,0,false⟩]) := fun z => frz_one (L := [bx z 4,bx [vI c.b] 1]) (k := 1) rfl
      have ha := qTg (a := bitN c.b) (b := 255) (qMs _) (by decide)
      simp [qAl,qAo,qAm,qAi,qAf,qAe,qAb,qAc,qAa,qAj,qAg,qAd,qAu,qAv,resV,retV,qAn,qAh,qAs,qAr,qAq,qAp,callK_def,h7,hfz]
      refine With_call (s := 0) (l := [c.b]) (by decide) (by simp [lim]) ?_
      rw [with_one]
      simp [qAl,qAo,qAm,qAi,qAf,qAe,qAb,qAc,qAa,qAj,qAg,qAd,qAu,qAv,resV,retV,qAn,qAh,qAs,qAr,qAq,qAp,callK_def,e8]
      rw [e,← ha]; rfl
    · have e : askN c = 0 := by unfold askN; rw [if_neg (by simp [hr]),if_neg h7]
      have h7' : ¬ (c.op : Int) = 7 := by omega
      simp [qAl,qAo,qAm,qAi,qAf,qAe,qAb,qAc,qAa,qAj,qAg,qAd,qAu,qAv,resV,retV,qAn,qAh,qAs,qAr,qAq,qAp,callK_def,h7',e]
end
end Pm

/- Stores that none can read: what is needed,walked.
   No condition: plain lemmas. -/

namespace Pm
set_option linter.unusedSimpArgs false
set_option linter.unusedVariables false
open Go Am
open Go.Proofs.Try (prog)

def stoP (code : List Ins) : Prob := wayP askN qKr code
def qJv (code : List Ins) (b : List Nat) : Prop := if 60 < code.length then b = [] else Asked askN qKr code b
section
variable {h : Heap} {K : Value → Heap → Prop}
set_option maxHeartbeats 4000000 in
theorem qLb {code : List Ins} (ho : ∀ i ∈ code,i.op ≤ 255) (hl : code.length ≤ lim) (hk : ∀ b,qJv code b → K (vL vU b) h) : qBo prog 57 [vM 4 vIns code] h K := by
  refine qBo.forget ?_
  refine call_sNeeded (by simp) ?_
  by_cases h60 : 60 < code.length
  · have h60' : (60 : Int) < code.length := by omega
    simp [qAl,qAo,qAm,qAi,qAf,qAe,qAb,qAc,qAa,qAj,qAg,qAd,qAu,qAv,resV,retV,qAn,qAh,qAs,qAr,qAq,qAp,qNk,h60']
    exact ⟨_,.nil,hk [] (by unfold qJv; rw [if_pos h60])⟩
  · have h60' : ¬ (60 : Int) < code.length := by omega
    have hsl : code.length < lim := by unfold lim; omega
    simp [-qAx,qAl,qAo,qAm,qAi,qAf,qAe,qAb,qAc,qAa,qAj,qAg,qAd,qAu,qAv,resV,retV,qAn,qAh,qAs,qAr,qAq,qAp,qNk]
    rw [qAx]
    simp [-qAx,qAl,qAo,qAm,qAi,qAf,qAe,qAb,qAc,qAa,qAj,qAg,qAd,qAu,qAv,resV,retV,qAn,qAh,qAs,qAr,qAq,qAp,h60']
    refine qOs hsl ?_
    simp [-qAx,qAl,qAo,qAm,qAi,qAf,qAe,qAb,qAc,qAa,qAj,qAg,qAd,qAu,qAv,resV,retV,qAn,qAh,qAs,qAr,qAq,qAp,callK_def]
    rw [qAx]
    simp [-qAx,qAl,qAo,qAm,qAi,qAf,qAe,qAb,qAc,qAa,qAj,qAg,qAd,qAu,qAv,resV,retV,qAn,qAh,qAs,qAr,qAq,qAp]
    obtain ⟨z,hz⟩ : ∃ z : Value → Value → List Value,z = fun gv kv => [vL (vL vI) (succs code),gv,kv,vU 0,.bool false,.bool true] := ⟨_,rfl⟩
    have zo : ZOk z := ⟨fun _ _ _ => by rw [hz]; rfl,fun _ _ _ => by rw [hz]; rfl,fun _ _ => by rw [hz]; rfl⟩
    have e1 : ∀ gv kv,(z gv kv)[1]? = some gv := fun _ _ => by rw [hz]; rfl
    have e2 : ∀ gv kv,(z gv kv)[2]? = some kv := fun _ _ => by rw [hz]; rfl
    refine qEd (σ := Nat × Value × Value × Heap) (fun x => [(3,ptr h.length),(15,vM 4 vIns code),(16,vI code.length),(17,vI x.1)]) (fun x => x.2.2.2)
      (fun x => x.1 ≤ code.length ∧ Fields h.length z x.2.2.2 x.2.1 x.2.2.1 ((code.map askN).take x.1) ((code.map qKr).take x.1) ∧ qCt h.length h x.2.2.2)
      (fun x => code.length - x.1) (0,nilS,nilS,h ++ [bx (z nilS nilS) 6]) (by simp) (by rw [hz]; rfl) ⟨by simp,⟨by simp [RowV,bx],.nil,.nil,.nil⟩,qCt.app⟩ ?_
    rintro ⟨k,gv,kv,H⟩ fr ⟨hk0,F,hkp⟩
    simp only at hk0 F hkp ⊢
    by_cases hlt : k < code.length
    · obtain ⟨k1,hk1,wk⟩ := qBm (show k < lim by omega)
      obtain ⟨c,hc⟩ : ∃ c,code[k]? = some c := ⟨_,List.getElem?_eq_getElem hlt⟩
      have hkf : (k : Int) < code.length := by omega
      have hco := ho c (List.mem_of_getElem? hc)
      have hlen : ∀ f : Ins → Nat,((code.map f).take k).length + 1 ≤ lim := fun f => by simp; omega
      have hu : (code.map askN)[k]? = some (askN c) := by rw [List.getElem?_map,hc]; rfl
      have hs : (code.map qKr)[k]? = some (qKr c) := by rw [List.getElem?_map,hc]; rfl
      have hv0 : (vIns c)[0]? = some (v8 c.op) := rfl
      have hv1 : (vIns c)[1]? = some (vI c.a) := rfl
      have hg0 : ∀ hh,(vIns c)[0]'hh = v8 c.op := fun _ => rfl
      have hg1 : ∀ hh,(vIns c)[1]'hh = vI c.a := fun _ => rfl
      simp [-qAx,qAl,qAo,qAm,qAi,qAf,qAe,qAb,qAc,qAa,qAj,qAg,qAd,qAu,qAv,resV,retV,qAn,qAh,qAs,qAr,qAq,qAp,hkf]
      rw [qAx]
      simp [-qAx,qAl,qAo,qAm,qAi,qAf,qAe,qAb,qAc,qAa,qAj,qAg,qAd,qAu,qAv,resV,retV,qAn,qAh,qAs,qAr,qAq,qAp]
      rw [qAx]
      simp [-qAx,qAl,qAo,qAm,qAi,qAf,qAe,qAb,qAc,qAa,qAj,qAg,qAd,qAu,qAv,resV,retV,qAn,qAh,qAs,qAr,qAq,qAp,hc,F.row.cellA,e1,-qAk,qBf,qBb,qAy,qCp]
      refine qTl (σ := List Ob) (fun _ => [(3,ptr h.length),(5,ptr H.length),(6,vU (qKr c)),(15,vM 4 vIns code),(16,vI code.length),(17,vI k)]) (fun rs => H ++ (bx (vIns c) 4 :: rs)) (fun _ => True) ?_ ?_
      · by_cases h8 : c.op = 8
        · have ek : qKr c = bitN c.a := by unfold qKr; rw [if_pos h8]
          have hfz := frz_one (h := H) (L := [bx (vIns c) 4,bx [vI c.a] 1]) (k := 1) rfl
          have h8' : (c.op : Int) = 8 := by omega
          simp [qAl,qAo,qAm,qAi,qAf,qAe,qAb,qAc,qAa,qAj,qAg,qAd,qAu,qAv,resV,retV,qAn,qAh,qAs,qAr,qAq,qAp,h8',hv0,hv1,-qAk,qBf,qBb,qAy,qCp,hfz]
          refine With_call (s := 0) (l := [c.a]) (by decide) (by simp [lim]) ?_
          rw [with_one]
          simp [qAl,qAo,qAm,qAi,qAf,qAe,qAb,qAc,qAa,qAj,qAg,qAd,qAu,qAv,resV,retV,qAn,qAh,qAs,qAr,qAq,qAp,callK_def]
          exact .go [.row ⟨[vI c.a],1,0,false⟩] (by simp [ek]) rfl trivial
        · have ek : qKr c = 0 := by unfold qKr; rw [if_neg h8]
          have h8' : ¬ (c.op : Int) = 8 := by omega
          simp [qAl,qAo,qAm,qAi,qAf,qAe,qAb,qAc,qAa,qAj,qAg,qAd,qAu,qAv,resV,retV,qAn,qAh,qAs,qAr,qAq,qAp,h8',hv0,hv1,-qAk,qBf,qBb,qAy,qCp]
          exact .go [] (by simp [ek]) rfl trivial
      rintro rs fr _
      simp [qAl,qAo,qAm,qAi,qAf,qAe,qAb,qAc,qAa,qAj,qAg,qAd,qAu,qAv,resV,retV,qAn,qAh,qAs,qAr,qAq,qAp,F.row.cellA,e1,-qAk,qBf,qBb,qAy,qCp]
      refine qEs (by simp [F.row.cellA,e1]) (qFv.lock (sAsks_call hco ⟨rfl,?_⟩))
      simp [qAl,qAo,qAm,qAi,qAf,qAe,qAb,qAc,qAa,qAj,qAg,qAd,qAu,qAv,resV,retV,qAn,qAh,qAs,qAr,qAq,qAp,F.row.cellA,e1]
      refine F.push1 zo (qIg (m := rs.length + 1) (cs := [vU (askN c)]) (by simp) rfl) (hlen _) fun v1 H1 H2 t1 F2 t2 t3 t4 => ?_
      have hc0 := t2 0 _ rfl
      have hR : RowV H2 H.length 0 4 (vIns c) := hc0
      simp [qAl,qAo,qAm,qAi,qAf,qAe,qAb,qAc,qAa,qAj,qAg,qAd,qAu,qAv,resV,retV,qAn,qAh,qAs,qAr,qAq,qAp,t1,F2.row.cell,e2]
      refine F2.push2 zo (qIg (m := 0) (cs := [vU (qKr c)]) rfl rfl) (hlen _) fun v2 H3 H4 w1 F4 w2 w3 w4 => ?_
      rw [← take_snoc' hu hk1,← take_snoc' hs hk1] at F4
      simp [qAl,qAo,qAm,qAi,qAf,qAe,qAb,qAc,qAa,qAj,qAg,qAd,qAu,qAv,resV,retV,qAn,qAh,qAs,qAr,qAq,qAp,w1,wk]
      exact .go (k1,v1,v2,H4) (by simp only []; omega) (by simp) rfl ⟨by simp only []; omega,F4,hkp.trans (t4.trans w4)⟩
    · obtain rfl : k = code.length := by omega
      have hkf : ¬ (code.length : Int) < code.length := by omega
      rw [List.take_of_length_le (by simp),List.take_of_length_le (by simp)] at F
      have ok := wayP_ok askN_lt killN_lt (code := code) (by omega)
      have hcs : H.cells? h.length 0 0 6 = some (z gv kv) := F.row.cells (zo.len _ _).symm
      obtain ⟨gv',kv',H',f1,f2,f3⟩ := F.frz (p := stoP code) hz rfl rfl
      simp [qAl,qAo,qAm,qAi,qAf,qAe,qAb,qAc,qAa,qAj,qAg,qAd,qAu,qAv,resV,retV,qAn,qAh,qAs,qAr,qAq,qAp,hkf,hcs,zo.len,f1]
      refine qBo.conv f3 (fSolve_call ok fun inn out hS => ?_)
      have hb : (stoP code).back = true := rfl
      simp [qAl,qAo,qAm,qAi,qAf,qAe,qAb,qAc,qAa,qAj,qAg,qAd,qAu,qAv,resV,retV,qAn,qAh,qAs,qAr,qAq,qAp,callK_def,hb]
      obtain ⟨g,rfl⟩ := (hkp.trans f2).ext
      refine ⟨⟨g,rfl⟩,_,.cell rfl,hk inn ?_⟩
      unfold qJv
      rw [if_neg h60]
      exact way_asked askN_lt hS
end
end Pm

/- Stores that none can read: the code that is left,walked.
   No condition: plain lemmas. -/

namespace Pm
set_option linter.unusedSimpArgs false
set_option linter.unusedVariables false
open Go Am
open Go.Proofs.Try (prog)

def Gone (code : List Ins) (i : Nat) (c : Ins) : Prop := c.op = 8 ∧ ∃ x : Nat,x < 8 ∧ c.a = (x : Int) ∧ Come (succs code) i ∧ ¬ ∃ j : Nat,(j : Int) ∈ qDd i c ∧ Nd code x j
structure Stored (code out : List Ins) : Prop where
  len : out.length = code.length
  gone : ∀ i c,code[i]? = some c → Gone code i c → out[i]? = some nopI
  stay : ∀ i c,code[i]? = some c → ¬ Gone code i c → out[i]? = some c
theorem Stored.unique {code a b : List Ins} (ha : Stored code a) (hb : Stored code b) : a = b := by
  apply List.ext_getElem?
  intro i
  by_cases hi : i < code.length
  · have hc : code[i]? = some code[i] := List.getElem?_eq_getElem hi
    rcases Classical.em (Gone code i code[i]) with h | h
    · rw [ha.gone i _ hc h,hb.gone i _ hc h]
    · rw [ha.stay i _ hc h,hb.stay i _ hc h]
  · rw [List.getElem?_eq_none (by rw [ha.len]; omega),List.getElem?_eq_none (by rw [hb.len]; omega)]
def qFs (code out : List Ins) (fm : List Int) : Prop := if 60 < code.length then out = [] ∧ fm = [] else Stored code out ∧ fm = ownL code.length
structure SC (h : Heap) (code : List Ins) (cs : Value) (k : Nat) (fv : Value) (out : List Ins) (H : Heap) : Prop where
  row : RowV H (h.length + 2) 0 2 [cs,fv]
  cod : RowM 4 vIns H (h.length + 1) 1 4 out
  frm : AccL vI (h.length + 2 + 1) H fv (ownL k)
  res : RowV H h.length 0 2 [nilS,nilS]
  kp : qCt h.length h H
  len : out.length = code.length
  tail : ∀ i,k ≤ i → out[i]? = code[i]?
  gone : ∀ i c,i < k → code[i]? = some c → Gone code i c → out[i]? = some nopI
  stay : ∀ i c,i < k → code[i]? = some c → ¬ Gone code i c → out[i]? = some c
section
variable {h : Heap} {K : Value → Heap → Prop}
set_option maxHeartbeats 4000000 in
theorem qNv {code : List Ins} (ho : ∀ i ∈ code,i.op ≤ 255) (hl : code.length ≤ lim) (hk : ∀ out fm,qFs code out fm → K (qXc out fm) h) : qBo prog 55 [vM 4 vIns code] h K := by
  refine qBo.forget ?_
  refine call_sCode (by simp) ?_
  have hlim : lim = 1048576 := rfl
  by_cases h60 : 60 < code.length
  · have h60' : (60 : Int) < code.length := by omega
    simp [qAl,qAo,qAm,qAi,qAf,qAe,qAb,qAc,qAa,qAj,qAg,qAd,qAu,qAv,resV,retV,qAn,qAh,qAs,qAr,qAq,qAp,qSq,h60']
    exact ⟨_,Inls.agg (xs := [_,_]) (ys := [_,_]) ⟨.nil,.nil,trivial⟩,hk [] [] (by unfold qFs; rw [if_pos h60]; exact ⟨rfl,rfl⟩)⟩
  · have h60' : ¬ (60 : Int) < code.length := by omega
    simp [-qAx,qAl,qAo,qAm,qAi,qAf,qAe,qAb,qAc,qAa,qAj,qAg,qAd,qAu,qAv,resV,retV,qAn,qAh,qAs,qAr,qAq,qAp,qSq]
    rw [qAx]
    simp [-qAx,qAl,qAo,qAm,qAi,qAf,qAe,qAb,qAc,qAa,qAj,qAg,qAd,qAu,qAv,resV,retV,qAn,qAh,qAs,qAr,qAq,qAp,h60']
    refine Clone4_call hl (fun e => ?_) ?_
    · subst e
      simp [-qAx,qAl,qAo,qAm,qAi,qAf,qAe,qAb,qAc,qAa,qAj,qAg,qAd,qAu,qAv,resV,retV,qAn,qAh,qAs,qAr,qAq,qAp,callK_def]
      refine qLb (code := []) (by simp) (by simp) fun b hb => ?_
      simp [-qAx,qAl,qAo,qAm,qAi,qAf,qAe,qAb,qAc,qAa,qAj,qAg,qAd,qAu,qAv,resV,retV,qAn,qAh,qAs,qAr,qAq,qAp,callK_def]
      refine qOs (by simp [lim]) ?_
      simp [-qAx,qAl,qAo,qAm,qAi,qAf,qAe,qAb,qAc,qAa,qAj,qAg,qAd,qAu,qAv,resV,retV,qAn,qAh,qAs,qAr,qAq,qAp,callK_def]
      refine Reach_call (s := succs []) (by simp [succs,lim]) fun seen hs1 hs2 => ?_
      simp [-qAx,qAl,qAo,qAm,qAi,qAf,qAe,qAb,qAc,qAa,qAj,qAg,qAd,qAu,qAv,resV,retV,qAn,qAh,qAs,qAr,qAq,qAp,callK_def]
      rw [qAx]
      simp [-qAx,qAl,qAo,qAm,qAi,qAf,qAe,qAb,qAc,qAa,qAj,qAg,qAd,qAu,qAv,resV,retV,qAn,qAh,qAs,qAr,qAq,qAp]
      refine qWd 1 ?_
      rw [qHo]
      simp [qAl,qAo,qAm,qAi,qAf,qAe,qAb,qAc,qAa,qAj,qAg,qAd,qAu,qAv,resV,retV,qAn,qAh,qAs,qAr,qAq,qAp]
      exact ⟨_,Inls.agg (xs := [_,_]) (ys := [_,_]) ⟨.nil,.nil,trivial⟩,hk [] [] (by unfold qFs; rw [if_neg (by simp)]; exact ⟨⟨rfl,fun i c hc => by simp at hc,fun i c hc => by simp at hc⟩,rfl⟩)⟩
    · obtain ⟨n,hn⟩ : ∃ n,n = code.length := ⟨_,rfl⟩
      obtain ⟨cs,hcs⟩ : ∃ cs : Value,cs = .slice (some ⟨h.length + 1,0,none⟩) code.length 1 := ⟨_,rfl⟩
      simp [-qAx,qAl,qAo,qAm,qAi,qAf,qAe,qAb,qAc,qAa,qAj,qAg,qAd,qAu,qAv,resV,retV,qAn,qAh,qAs,qAr,qAq,qAp,callK_def]
      refine qLb ho hl fun b hb => ?_
      have hA : Asked askN qKr code b := by unfold qJv at hb; rwa [if_neg h60] at hb
      have hbl := hA.len
      simp [-qAx,qAl,qAo,qAm,qAi,qAf,qAe,qAb,qAc,qAa,qAj,qAg,qAd,qAu,qAv,resV,retV,qAn,qAh,qAs,qAr,qAq,qAp,callK_def]
      refine qOs (by omega) ?_
      simp [-qAx,qAl,qAo,qAm,qAi,qAf,qAe,qAb,qAc,qAa,qAj,qAg,qAd,qAu,qAv,resV,retV,qAn,qAh,qAs,qAr,qAq,qAp,callK_def]
      refine Reach_call (s := succs code) (by have := sum_succs code; rw [qDa]; omega) fun seen hs1 hs2 => ?_
      rw [qDa] at hs1
      simp [-qAx,qAl,qAo,qAm,qAi,qAf,qAe,qAb,qAc,qAa,qAj,qAg,qAd,qAu,qAv,resV,retV,qAn,qAh,qAs,qAr,qAq,qAp,callK_def]
      rw [qAx]
      simp [-qAx,qAl,qAo,qAm,qAi,qAf,qAe,qAb,qAc,qAa,qAj,qAg,qAd,qAu,qAv,resV,retV,qAn,qAh,qAs,qAr,qAq,qAp]
      refine qEd (σ := Nat × Value × List Ins × Heap) (fun x => [(2,ptr h.length),(3,ptr (h.length + 2)),(4,vL vU b),(5,vL vB seen),(21,vM 4 vIns code),(22,vI code.length),(23,vI x.1)]) (fun x => x.2.2.2)
        (fun x => x.1 ≤ code.length ∧ SC h code cs x.1 x.2.1 x.2.2.1 x.2.2.2) (fun x => code.length - x.1)
        (0,nilS,code,h ++ [bx [nilS,nilS] 2,Ob.row ⟨code.flatMap vIns,4,1,true⟩,bx [cs,nilS] 2]) (by simp) (by rw [hcs]) ⟨by simp,⟨by simp [RowV,bx],by simp [RowM],.nil,by simp [RowV,bx],qCt.app,rfl,fun _ _ => rfl,fun i c hi => by omega,fun i c hi => by omega⟩⟩ ?_
      rintro ⟨k,fv,out,H⟩ fr ⟨hk0,v⟩
      simp only at hk0 v ⊢
      by_cases hlt : k < code.length
      · obtain ⟨k1,hk1,wk⟩ := qBm (show k < lim by omega)
        obtain ⟨c,hc⟩ : ∃ c,code[k]? = some c := ⟨_,List.getElem?_eq_getElem hlt⟩
        have hkf : (k : Int) < code.length := by omega
        have hco := ho c (List.mem_of_getElem? hc)
        obtain ⟨sk,hsk⟩ : ∃ sk,seen[k]? = some sk := ⟨_,List.getElem?_eq_getElem (by omega)⟩
        have hbk := qXj (l := b) (i := k) (by omega)
        simp [qAl,qAo,qAm,qAi,qAf,qAe,qAb,qAc,qAa,qAj,qAg,qAd,qAu,qAv,resV,retV,qAn,qAh,qAs,qAr,qAq,qAp,hkf,hc,v.row.cellA,-qAk,qBf,qBb,qAy,qCp]
        refine box_push (j := 1) v.row v.frm (by simp) (qIg (m := 1) (cs := [vI (k : Int)]) rfl rfl) (by rw [qRx]; omega) fun v1 H1 H2 t1 r2 a2 t2 t3 t4 => ?_
        have hR : RowV H2 H.length 0 4 (vIns c) := t2 0 _ rfl
        have e0 : H2.cell? H.length 0 0 = some (v8 c.op) := by rw [hR.cell]; rfl
        have e1 : H2.cell? H.length 1 0 = some (vI c.a) := by rw [hR.cell]; rfl
        have hst : ([cs,fv] : List Value).set 1 v1 = [cs,v1] := rfl
        rw [hst] at r2
        have ecs : H2.cell? (h.length + 2) 0 0 = some cs := by rw [r2.cell]; rfl
        have hcid : h.length + 1 < h.length + 2 := by omega
        have cod2 : RowM 4 vIns H2 (h.length + 1) 1 4 out := v.cod.keep (t4.2 _ (by omega))
        have res2 : RowV H2 h.length 0 2 [nilS,nilS] := v.res.keep (t4.2 _ (by omega))
        have kp2 : qCt h.length h H2 := v.kp.trans ⟨t4.1,fun i hi => t4.2 i (by omega)⟩
        have own1 : ownL k1 = ownL k ++ [(k : Int)] := by rw [hk1,ownL_succ]
        rw [← own1] at a2
        have stay : ¬ Gone code k c → SC h code cs k1 v1 out H2 := fun hng => by
          refine ⟨r2,cod2,a2,res2,kp2,v.len,fun i hi => v.tail i (by omega),fun i d hi hd hg => ?_,fun i d hi hd hg => ?_⟩
          · by_cases e : i = k
            · subst e; rw [hc] at hd; cases hd; exact absurd hg hng
            · exact v.gone i d (by omega) hd hg
          · by_cases e : i = k
            · subst e; rw [v.tail i (Nat.le_refl _),hd]
            · exact v.stay i d (by omega) hd hg
        have hss : (succs code)[k]? = some (qDd k c) := by rw [qJx,hc]; rfl
        by_cases ha0 : 0 ≤ c.a
        · obtain ⟨x,hx⟩ : ∃ x : Nat,c.a = (x : Int) := ⟨c.a.toNat,by omega⟩
          have hx0 : (0 : Int) ≤ (x : Int) := by omega
          by_cases hx8 : x < 8
          · have hx8' : (x : Int) < 8 := by omega
            by_cases h8 : c.op = 8
            · have h8' : (c.op : Int) = 8 := by omega
              cases sk with
              | true =>
                have hcome : Come (succs code) k := (hs2 k).1 hsk
                cases hn : (gN b k).testBit x with
                | true =>
                  have hng : ¬ Gone code k c := by
                    rintro ⟨_,y,hy1,hy2,_,hy3⟩
                    obtain rfl : x = y := by omega
                    have := (hA.bit k x).1 hn
                    rw [qIn hc] at this
                    exact hy3 this.2
                  simp [qAl,qAo,qAm,qAi,qAf,qAe,qAb,qAc,qAa,qAj,qAg,qAd,qAu,qAv,resV,retV,qAn,qAh,qAs,qAr,qAq,qAp,t1,e0,e1,hx,hx0,hx8',h8',hsk,hbk]
                  refine bHas_call (hA.lt k) ?_
                  rw [qPk (by omega),hn]
                  simp [qAl,qAo,qAm,qAi,qAf,qAe,qAb,qAc,qAa,qAj,qAg,qAd,qAu,qAv,resV,retV,qAn,qAh,qAs,qAr,qAq,qAp,callK_def,wk]
                  exact .go (k1,v1,out,H2) (by simp only []; omega) (by simp) rfl ⟨by simp only []; omega,stay hng⟩
                | false =>
                  have hgn : Gone code k c := ⟨h8,x,hx8,hx,hcome,fun hj => by
                    have := (hA.bit k x).2 ⟨hlt,by rw [qIn hc]; exact hj⟩
                    rw [hn] at this; cases this⟩
                  obtain ⟨H3,s1,s2,s3⟩ := cod2.store (r := k) (by rw [v.len]; exact hlt) (x := nopI) rfl
                  have s1' : qCl H2 4 (.pointer (some ⟨h.length + 1,k * 4,some 1⟩)) (.agg #[.int .u8 0,.int .i64 0,.int .i64 0,.int .i64 0]) = some H3 := s1
                  have sc : SC h code cs k1 v1 (out.set k nopI) H3 := by
                    refine ⟨r2.keep (s3.1 _ (by omega)),s2,a2.keep fun i hi => s3.1 i (fun e => by have := a2.low i hi; omega),res2.keep (s3.1 _ (by omega)),⟨by rw [s3.2]; exact kp2.1,fun i hi => by rw [s3.1 i (by omega)]; exact kp2.2 i hi⟩,by simp [v.len],fun i hi => ?_,fun i d hi hd hg => ?_,fun i d hi hd hg => ?_⟩
                    · rw [List.getElem?_set_ne (by omega)]; exact v.tail i (by omega)
                    · by_cases e : i = k
                      · subst e; rw [List.getElem?_set_self (by rw [v.len]; exact hlt)]
                      · rw [List.getElem?_set_ne (fun h => e h.symm)]; exact v.gone i d (by omega) hd hg
                    · by_cases e : i = k
                      · subst e; rw [hc] at hd; cases hd; exact absurd hgn hg
                      · rw [List.getElem?_set_ne (fun h => e h.symm)]; exact v.stay i d (by omega) hd hg
                  simp [qAl,qAo,qAm,qAi,qAf,qAe,qAb,qAc,qAa,qAj,qAg,qAd,qAu,qAv,resV,retV,qAn,qAh,qAs,qAr,qAq,qAp,t1,e0,e1,hx,hx0,hx8',h8',hsk,hbk]
                  refine bHas_call (hA.lt k) ?_
                  rw [qPk (by omega),hn]
                  simp [qAl,qAo,qAm,qAi,qAf,qAe,qAb,qAc,qAa,qAj,qAg,qAd,qAu,qAv,resV,retV,qAn,qAh,qAs,qAr,qAq,qAp,callK_def,wk,ecs,hcs,hlt,s1']
                  exact .go (k1,v1,out.set k nopI,H3) (by simp only []; omega) (by simp) rfl ⟨by simp only []; omega,by subst hcs; exact sc⟩
              | false =>
                have hng : ¬ Gone code k c := fun ⟨_,y,_,_,hy,_⟩ => by rw [← hs2 k,hsk] at hy; cases hy
                simp [qAl,qAo,qAm,qAi,qAf,qAe,qAb,qAc,qAa,qAj,qAg,qAd,qAu,qAv,resV,retV,qAn,qAh,qAs,qAr,qAq,qAp,t1,e0,e1,hx,hx0,hx8',h8',hsk,wk]
                exact .go (k1,v1,out,H2) (by simp only []; omega) (by simp) rfl ⟨by simp only []; omega,stay hng⟩
            · have h8' : ¬ (c.op : Int) = 8 := by omega
              have hng : ¬ Gone code k c := fun hg => h8 hg.1
              simp [qAl,qAo,qAm,qAi,qAf,qAe,qAb,qAc,qAa,qAj,qAg,qAd,qAu,qAv,resV,retV,qAn,qAh,qAs,qAr,qAq,qAp,t1,e0,e1,hx,hx0,hx8',h8',wk]
              exact .go (k1,v1,out,H2) (by simp only []; omega) (by simp) rfl ⟨by simp only []; omega,stay hng⟩
          · have hx8' : ¬ (x : Int) < 8 := by omega
            have hng : ¬ Gone code k c := fun ⟨_,y,hy,hy2,_⟩ => by omega
            by_cases h8' : (c.op : Int) = 8
            · simp [qAl,qAo,qAm,qAi,qAf,qAe,qAb,qAc,qAa,qAj,qAg,qAd,qAu,qAv,resV,retV,qAn,qAh,qAs,qAr,qAq,qAp,t1,e0,e1,hx,hx0,hx8',h8',wk]
              exact .go (k1,v1,out,H2) (by simp only []; omega) (by simp) rfl ⟨by simp only []; omega,stay hng⟩
            · simp [qAl,qAo,qAm,qAi,qAf,qAe,qAb,qAc,qAa,qAj,qAg,qAd,qAu,qAv,resV,retV,qAn,qAh,qAs,qAr,qAq,qAp,t1,e0,e1,hx,hx0,hx8',h8',wk]
              exact .go (k1,v1,out,H2) (by simp only []; omega) (by simp) rfl ⟨by simp only []; omega,stay hng⟩
        · have hng : ¬ Gone code k c := fun ⟨_,y,hy,hy2,_⟩ => by omega
          by_cases h8' : (c.op : Int) = 8
          · simp [qAl,qAo,qAm,qAi,qAf,qAe,qAb,qAc,qAa,qAj,qAg,qAd,qAu,qAv,resV,retV,qAn,qAh,qAs,qAr,qAq,qAp,t1,e0,e1,ha0,h8',wk]
            exact .go (k1,v1,out,H2) (by simp only []; omega) (by simp) rfl ⟨by simp only []; omega,stay hng⟩
          · simp [qAl,qAo,qAm,qAi,qAf,qAe,qAb,qAc,qAa,qAj,qAg,qAd,qAu,qAv,resV,retV,qAn,qAh,qAs,qAr,qAq,qAp,t1,e0,e1,ha0,h8',wk]
            exact .go (k1,v1,out,H2) (by simp only []; omega) (by simp) rfl ⟨by simp only []; omega,stay hng⟩
      · obtain rfl : k = code.length := by omega
        have hkf : ¬ (code.length : Int) < code.length := by omega
        have hce : H.cells? (h.length + 2) 0 0 2 = some [cs,fv] := v.row.cells rfl
        have hfc : cellsOf fv = some [fv] := v.frm.cell
        obtain ⟨H2,s1,s2,s3⟩ := v.res.store (n := 2) (cs := [cs,fv]) rfl rfl (by
          have hq := v.frm
          rcases hq with ⟨e,_⟩ | ⟨id,ver,e,_⟩ <;> rw [e,hcs] <;> rfl)
        have s1' : qCl H 2 (ptr h.length) (.agg #[cs,fv]) = some H2 := s1
        have ce2 : H2.cells? h.length 0 0 2 = some [cs,fv] := s2.cells rfl
        simp [qAl,qAo,qAm,qAi,qAf,qAe,qAb,qAc,qAa,qAj,qAg,qAd,qAu,qAv,resV,retV,qAn,qAh,qAs,qAr,qAq,qAp,hkf,hce,s1',ce2]
        obtain ⟨g,hg⟩ := (v.kp.trans ⟨by rw [s3.2]; exact Nat.le_refl _,fun i hi => s3.1 i (by omega)⟩ : qCt h.length h H2).ext
        have cod2 : RowM 4 vIns H2 (h.length + 1) 1 4 out := v.cod.keep (s3.1 _ (by omega))
        have frm2 : AccL vI (h.length + 2 + 1) H2 fv (ownL code.length) := v.frm.keep fun i hi => s3.1 i (fun e => by have := v.frm.low i hi; omega)
        have i1 : Inl h.length H2 cs (vM 4 vIns out) := by
          rw [hcs]
          exact AccM.inl (e := 4) (F := vIns) (b := h.length) (.inr ⟨_,1,by rw [v.len],by omega,cod2,qIe (e := 4) (fun _ => rfl) _⟩) fun _ => rfl
        have i2 : Inl h.length H2 fv (vL vI (ownL code.length)) := by
          have f3 : AccL vI h.length H2 fv (ownL code.length) := by
            rcases frm2 with ⟨e1,e2,e3⟩ | ⟨id,ver,e1,e2,e3⟩
            · exact Or.inl ⟨e1,e2,e3⟩
            · exact Or.inr ⟨id,ver,e1,by omega,e3⟩
          exact AccL.inl f3 fun _ => rfl
        refine ⟨⟨g,hg⟩,_,Inls.agg (xs := [cs,fv]) (ys := [vM 4 vIns out,vL vI (ownL code.length)]) ⟨i1,i2,trivial⟩,hk out (ownL code.length) ?_⟩
        unfold qFs
        rw [if_neg h60]
        exact ⟨⟨v.len,fun i c hc => v.gone i c (List.getElem?_eq_some_iff.1 hc).1 hc,fun i c hc => v.stay i c (List.getElem?_eq_some_iff.1 hc).1 hc⟩,rfl⟩
end
end Pm
