/- Numbers that are known: the program's rows,walked.
   No condition: plain lemmas. -/

import Derived.Test.YtmdnkninbkcmkaaZGPmVal4
import Derived.Test.YtmdnkninbkcmkaaZGPmSuccs
import Derived.Test.YtmdnkninbkcmkaaZGPmCfg3
namespace Pm
set_option linter.unusedSimpArgs false
set_option linter.unusedVariables false
open Go Am
open Go.Proofs.Try (prog)

section
variable {h : Heap} {K : Value → Heap → Prop}
set_option maxHeartbeats 8000000 in
theorem vOf_call {code : List Ins} (hl : code.length ≤ 4000) (ho : ∀ i ∈ code,i.op ≤ 255) (hk : ∀ out,Least code out → K (vM 8 c4 out) h) : PCall prog 17 [vM 4 vIns code] h K := by
  refine PCall.forget ?_
  refine call_vOf (by simp) ?_
  have hl0 : code.length ≤ lim := by simp [lim]; omega
  simp [-qAv,qAk,qAn,qAl,qAi,qAg,qAe,qAb,qAd,qAa,qAj,qAf,qAc,BodyK,resVs,resV,retV,qAm,qAh,qAr,qAq,qAp,qAo,qEf,qCu,qDo,qAu,qAw,qCx,qEb,qEi,qCv,qCt,qCs,qCq,qDt,qDp,qCz,qGr,qEh,qGs,qEg,qCp,qDq,qDr,qDe,qDg,c_vOf]
  refine Succs_call (by simp [lim]; omega) ?_
  simp [-qAv,qAk,qAn,qAl,qAi,qAg,qAe,qAb,qAd,qAa,qAj,qAf,qAc,BodyK,resVs,resV,retV,qAm,qAh,qAr,qAq,qAp,qAo,qEf,qCu,qDo,qAu,qAw,qCx,qEb,qEi,qCv,qCt,qCs,qCq,qDt,qDp,qCz,qGr,qEh,qGs,qEg,qCp,qDq,qDr,qDe,qDg,callK_def,make_box hl0]
  rw [qAv]
  by_cases h0 : code = []
  · subst h0
    simp [qAk,qAn,qAl,qAi,qAg,qAe,qAb,qAd,qAa,qAj,qAf,qAc,BodyK,resVs,resV,retV,qAm,qAh,qAr,qAq,qAp,qAo,qEf,qCu,qDo,qAu,qAw,qCx,qEb,qEi,qCv,qCt,qCs,qCq,qDt,qDp,qCz,qGr,qEh,qGs,qEg,qCp,qDq,qDr,qDe,qDg]
    exact ⟨_,out_inl rfl,hk [] ⟨rfl,fun h => by simp at h,fun F hF i => by simpa [rowF] using zero_le _⟩⟩
  · have hn : 0 < code.length := List.length_pos_iff.2 h0
    obtain ⟨o0,ho0⟩ : ∃ o,o = oneV 0 := ⟨_,rfl⟩
    obtain ⟨m,hm⟩ : ∃ m,code.length = m + 1 := ⟨code.length - 1,by omega⟩
    have hn0 : ¬ (code.length : Int) = 0 := by omega
    have hn1 : (code.length : Int) > 0 := by omega
    have hrep : List.replicate code.length zero4 = zero4 :: List.replicate m zero4 := by rw [hm,List.replicate_succ]
    simp [-qAv,qAk,qAn,qAl,qAi,qAg,qAe,qAb,qAd,qAa,qAj,qAf,qAc,BodyK,resVs,resV,retV,qAm,qAh,qAr,qAq,qAp,qAo,qEf,qCu,qDo,qAu,qAw,qCx,qEb,qEi,qCv,qCt,qCs,qCq,qDt,qDp,qCz,qGr,qEh,qGs,qEg,qCp,qDq,qDr,qDe,qDg,h0,hn0,make_box hl0,hrep]
    rw [qAv]
    simp [-qAv,qAk,qAn,qAl,qAi,qAg,qAe,qAb,qAd,qAa,qAj,qAf,qAc,BodyK,resVs,resV,retV,qAm,qAh,qAr,qAq,qAp,qAo,qEf,qCu,qDo,qAu,qAw,qCx,qEb,qEi,qCv,qCt,qCs,qCq,qDt,qDp,qCz,qGr,qEh,qGs,qEg,qCp,qDq,qDr,qDe,qDg]
    refine loop_n 5 ?_
    rw [qDi]
    simp [qAk,qAn,qAl,qAi,qAg,qAe,qAb,qAd,qAa,qAj,qAf,qAc,BodyK,resVs,resV,retV,qAm,qAh,qAr,qAq,qAp,qAo,qEf,qCu,qDo,qAu,qAw,qCx,qEb,qEi,qCv,qCt,qCs,qCq,qDt,qDp,qCz,qGr,qEh,qGs,qEg,qCp,qDq,qDr,qDe,qDg,hn]
    refine qEx ?_
    simp [qAk,qAn,qAl,qAi,qAg,qAe,qAb,qAd,qAa,qAj,qAf,qAc,BodyK,resVs,resV,retV,qAm,qAh,qAr,qAq,qAp,qAo,qEf,qCu,qDo,qAu,qAw,qCx,qEb,qEi,qCv,qCt,qCs,qCq,qDt,qDp,qCz,qGr,qEh,qGs,qEg,qCp,qDq,qDr,qDe,qDg,callK_def,← ho0,vV,storeV_a]
    rw [qDi]
    simp [qAk,qAn,qAl,qAi,qAg,qAe,qAb,qAd,qAa,qAj,qAf,qAc,BodyK,resVs,resV,retV,qAm,qAh,qAr,qAq,qAp,qAo,qEf,qCu,qDo,qAu,qAw,qCx,qEb,qEi,qCv,qCt,qCs,qCq,qDt,qDp,qCz,qGr,qEh,qGs,qEg,qCp,qDq,qDr,qDe,qDg,hn]
    refine qEx ?_
    simp [qAk,qAn,qAl,qAi,qAg,qAe,qAb,qAd,qAa,qAj,qAf,qAc,BodyK,resVs,resV,retV,qAm,qAh,qAr,qAq,qAp,qAo,qEf,qCu,qDo,qAu,qAw,qCx,qEb,qEi,qCv,qCt,qCs,qCq,qDt,qDp,qCz,qGr,qEh,qGs,qEg,qCp,qDq,qDr,qDe,qDg,callK_def,← ho0,vV,storeV_b]
    rw [qDi]
    simp [qAk,qAn,qAl,qAi,qAg,qAe,qAb,qAd,qAa,qAj,qAf,qAc,BodyK,resVs,resV,retV,qAm,qAh,qAr,qAq,qAp,qAo,qEf,qCu,qDo,qAu,qAw,qCx,qEb,qEi,qCv,qCt,qCs,qCq,qDt,qDp,qCz,qGr,qEh,qGs,qEg,qCp,qDq,qDr,qDe,qDg,hn]
    refine qEx ?_
    simp [qAk,qAn,qAl,qAi,qAg,qAe,qAb,qAd,qAa,qAj,qAf,qAc,BodyK,resVs,resV,retV,qAm,qAh,qAr,qAq,qAp,qAo,qEf,qCu,qDo,qAu,qAw,qCx,qEb,qEi,qCv,qCt,qCs,qCq,qDt,qDp,qCz,qGr,qEh,qGs,qEg,qCp,qDq,qDr,qDe,qDg,callK_def,← ho0,vV,storeV_c]
    rw [qDi]
    simp [qAk,qAn,qAl,qAi,qAg,qAe,qAb,qAd,qAa,qAj,qAf,qAc,BodyK,resVs,resV,retV,qAm,qAh,qAr,qAq,qAp,qAo,qEf,qCu,qDo,qAu,qAw,qCx,qEb,qEi,qCv,qCt,qCs,qCq,qDt,qDp,qCz,qGr,qEh,qGs,qEg,qCp,qDq,qDr,qDe,qDg,hn]
    refine qEx ?_
    simp [qAk,qAn,qAl,qAi,qAg,qAe,qAb,qAd,qAa,qAj,qAf,qAc,BodyK,resVs,resV,retV,qAm,qAh,qAr,qAq,qAp,qAo,qEf,qCu,qDo,qAu,qAw,qCx,qEb,qEi,qCv,qCt,qCs,qCq,qDt,qDp,qCz,qGr,qEh,qGs,qEg,qCp,qDq,qDr,qDe,qDg,callK_def,← ho0,vV,storeV_d]
    rw [qDi]
    simp [-qAv,qAk,qAn,qAl,qAi,qAg,qAe,qAb,qAd,qAa,qAj,qAf,qAc,BodyK,resVs,resV,retV,qAm,qAh,qAr,qAq,qAp,qAo,qEf,qCu,qDo,qAu,qAw,qCx,qEb,qEi,qCv,qCt,qCs,qCq,qDt,qDp,qCz,qGr,qEh,qGs,qEg,qCp,qDq,qDr,qDe,qDg]
    rw [qAv]
    simp [-qAv,qAk,qAn,qAl,qAi,qAg,qAe,qAb,qAd,qAa,qAj,qAf,qAc,BodyK,resVs,resV,retV,qAm,qAh,qAr,qAq,qAp,qAo,qEf,qCu,qDo,qAu,qAw,qCx,qEb,qEi,qCv,qCt,qCs,qCq,qDt,qDp,qCz,qGr,qEh,qGs,qEg,qCp,qDq,qDr,qDe,qDg]
    obtain ⟨n,hnn⟩ : ∃ n,n = code.length := ⟨_,rfl⟩
    refine qGv (σ := List V4 × List Bool × List Nat × List Value × Nat × List Ob) (fun x fr h' => fr 0 = vM 4 vIns code ∧ fr 3 = vL (vL vI) (succs code) ∧ fr 4 = .slice (some ⟨h.length,0,none⟩) n 0 ∧ fr 5 = .slice (some ⟨h.length + 1,0,none⟩) n 0 ∧
      fr 7 = .slice (some ⟨h.length + 2,x.2.2.2.1.length,none⟩) x.2.2.1.length x.2.2.2.2.1 ∧ VInv code x.1 x.2.1 x.2.2.1 none ∧ h' = h ++ (bxV x.1 :: bxL vB x.2.1 :: bxQ (x.2.2.2.1 ++ x.2.2.1.map fun i : Nat => vI i) x.2.2.2.2.1 :: x.2.2.2.2.2))
      (fun x => 2 * (9 * code.length - wgt x.1 x.2.1) + x.2.2.1.length) ?_ (one4 :: List.replicate m zero4,List.replicate code.length false,[0],[],0,[]) ⟨by simp,by simp,by simp [hnn],by simp [hnn],by simp,?_,?_⟩
    · rintro ⟨out,seen,q,pre,ver,rest⟩ fr _ ⟨f0,f3,f4,f5,f7,v,rfl⟩
      simp only at f7 v
      cases q with
      | nil =>
        simp [qAk,qAn,qAl,qAi,qAg,qAe,qAb,qAd,qAa,qAj,qAf,qAc,BodyK,resVs,resV,retV,qAm,qAh,qAr,qAq,qAp,qAo,qEf,qCu,qDo,qAu,qAw,qCx,qEb,qEi,qCv,qCt,qCs,qCq,qDt,qDp,qCz,qGr,qEh,qGs,qEg,qCp,qDq,qDr,qDe,qDg,f0,f3,f4,f5,f7]
        exact ⟨_,out_inl (by rw [hnn,v.olen]),hk out (v.end hn)⟩
      | cons i q =>
        obtain ⟨hi,hvi⟩ := v.qvis i (by simp)
        obtain ⟨c,hc⟩ : ∃ c,code[i]? = some c := ⟨_,List.getElem?_eq_getElem hi⟩
        obtain ⟨l,hls⟩ : ∃ l,(succs code)[i]? = some l := ⟨_,by rw [qGp,hc]; rfl⟩
        have hll : l.length ≤ 2 := by
          have e := hls
          rw [qGp,hc] at e
          cases e
          exact nextsOf_len i c
        have hin : i < n := by rw [hnn]; exact hi
        have hio : i < out.length := by rw [v.olen]; exact hi
        obtain ⟨o,hoi⟩ : ∃ o,out[i]? = some o := ⟨_,List.getElem?_eq_getElem hio⟩
        have hoo := ho c (List.mem_of_getElem? hc)
        have v1 := v.pop hc hls
        rw [qFf hoi] at v1
        rw [qAv]
        simp [-qAv,qAk,qAn,qAl,qAi,qAg,qAe,qAb,qAd,qAa,qAj,qAf,qAc,BodyK,resVs,resV,retV,qAm,qAh,qAr,qAq,qAp,qAo,qEf,qCu,qDo,qAu,qAw,qCx,qEb,qEi,qCv,qCt,qCs,qCq,qDt,qDp,qCz,qGr,qEh,qGs,qEg,qCp,qDq,qDr,qDe,qDg,f0,f3,f4,f5,f7,hc,hls,hoi,hin]
        refine vDo_call (i := c) (l := o) hoo ?_
        obtain ⟨x,hx⟩ : ∃ x,x = doV c o := ⟨_,rfl⟩
        rw [← hx] at v1 ⊢
        simp [-qAv,qAk,qAn,qAl,qAi,qAg,qAe,qAb,qAd,qAa,qAj,qAf,qAc,BodyK,resVs,resV,retV,qAm,qAh,qAr,qAq,qAp,qAo,qEf,qCu,qDo,qAu,qAw,qCx,qEb,qEi,qCv,qCt,qCs,qCq,qDt,qDp,qCz,qGr,qEh,qGs,qEg,qCp,qDq,qDr,qDe,qDg,callK_def,f0,f3,f4,f5,f7,hls,hin]
        obtain ⟨p,hp⟩ : ∃ p,p = rest.length := ⟨_,rfl⟩
        obtain ⟨M0,hM0⟩ : ∃ M,M = 2 * (9 * code.length - wgt out seen) + q.length := ⟨_,rfl⟩
        have hxb : Bare4 x := by rw [hx]; exact qHd
        have hxF : ∀ F,Holds code F → le4 x (doV c (F i)) := fun F hF => by
          rw [hx,← qFf hoi]; exact doV_mono (v.least F hF i)
        refine qGv (σ := Nat × List V4 × List Bool × List Nat × List Value × Nat × List Ob) (fun y fr h' => fr 0 = vM 4 vIns code ∧ fr 3 = vL (vL vI) (succs code) ∧ fr 4 = .slice (some ⟨h.length,0,none⟩) n 0 ∧ fr 5 = .slice (some ⟨h.length + 1,0,none⟩) n 0 ∧
          fr 7 = .slice (some ⟨h.length + 2,y.2.2.2.2.1.length,none⟩) y.2.2.2.1.length y.2.2.2.2.2.1 ∧ fr 9 = .pointer (some ⟨h.length + (p + 3),0,some 0⟩) ∧ y.2.2.2.2.2.2[p]? = some (bx (c4 x) 2) ∧ fr 55 = vL vI l ∧ fr 56 = vI l.length ∧ fr 57 = vI y.1 ∧ y.1 ≤ l.length ∧
          VInv code y.2.1 y.2.2.1 y.2.2.2.1 (some i) ∧ VDone code y.2.1 y.2.2.1 y.2.2.2.1 i c l x y.1 ∧ Vis y.2.2.1 i ∧ 2 * (9 * code.length - wgt y.2.1 y.2.2.1) + y.2.2.2.1.length ≤ M0 ∧
          h' = h ++ (bxV y.2.1 :: bxL vB y.2.2.1 :: bxQ (y.2.2.2.2.1 ++ y.2.2.2.1.map fun i : Nat => vI i) y.2.2.2.2.2.1 :: y.2.2.2.2.2.2))
          (fun y => l.length - y.1) ?_ (0,out,seen,q,pre ++ [vI i],ver,rest ++ [bx (c4 x) 2]) ⟨by simp [f0],by simp [f3],by simp [f4],by simp [f5],by simp,by simp [hp],by simp [hp,qDr],by simp,by simp,by simp,by simp,v1.1,v1.2,hvi,by simp [hM0],by simp⟩
        rintro ⟨j,out,seen,q,pre,ver,rest⟩ fr _ ⟨f0,f3,f4,f5,f7,f9,hre,f55,f56,f57,hj,v,d,hvi,hM,rfl⟩
        simp only at f7 hre f57 hj v d hvi hM
        by_cases hjl : j < l.length
        · obtain ⟨j1,hj1,wj⟩ := qCr (show j < lim by simp [lim]; omega)
          obtain ⟨k,hk⟩ : ∃ k,l[j]? = some k := ⟨_,List.getElem?_eq_getElem hjl⟩
          have hjf : (j : Int) < l.length := by omega
          by_cases hk0 : k < 0
          · simp [qAk,qAn,qAl,qAi,qAg,qAe,qAb,qAd,qAa,qAj,qAf,qAc,BodyK,resVs,resV,retV,qAm,qAh,qAr,qAq,qAp,qAo,qEf,qCu,qDo,qAu,qAw,qCx,qEb,qEi,qCv,qCt,qCs,qCq,qDt,qDp,qCz,qGr,qEh,qGs,qEg,qCp,qDq,qDr,qDe,qDg,f0,f3,f4,f5,f7,f9,f55,f56,f57,hjf,hk,hk0,wj]
            exact .go (j1,out,seen,q,pre,ver,rest) (by simp only []; omega) ⟨by simp [f0],by simp [f3],by simp [f4],by simp [f5],by simp [f7],by simp [f9],hre,by simp [f55],by simp [f56],by simp,by simp only []; omega,v,by rw [hj1]; exact d.out hk (.inl hk0),hvi,hM,rfl⟩
          · obtain ⟨kk,rfl⟩ : ∃ kk : Nat,k = kk := ⟨k.toNat,by omega⟩
            by_cases hkn : code.length ≤ kk
            · simp [qAk,qAn,qAl,qAi,qAg,qAe,qAb,qAd,qAa,qAj,qAf,qAc,BodyK,resVs,resV,retV,qAm,qAh,qAr,qAq,qAp,qAo,qEf,qCu,qDo,qAu,qAw,qCx,qEb,qEi,qCv,qCt,qCs,qCq,qDt,qDp,qCz,qGr,qEh,qGs,qEg,qCp,qDq,qDr,qDe,qDg,f0,f3,f4,f5,f7,f9,f55,f56,f57,hjf,hk,hk0,hkn,wj]
              exact .go (j1,out,seen,q,pre,ver,rest) (by simp only []; omega) ⟨by simp [f0],by simp [f3],by simp [f4],by simp [f5],by simp [f7],by simp [f9],hre,by simp [f55],by simp [f56],by simp,by simp only []; omega,v,by rw [hj1]; exact d.out hk (.inr (by omega)),hvi,hM,rfl⟩
            · have hkn' : kk < n := by omega
              have hko : kk < out.length := by rw [v.olen]; omega
              have hks : kk < seen.length := by rw [v.slen]; omega
              obtain ⟨o',ho'⟩ : ∃ o',out[kk]? = some o' := ⟨_,List.getElem?_eq_getElem hko⟩
              obtain ⟨s',hs'⟩ : ∃ s',seen[kk]? = some s' := ⟨_,List.getElem?_eq_getElem hks⟩
              have hgo : out[kk]'hko = o' := (List.getElem?_eq_some_iff.1 ho').2
              have hgs : seen[kk]'hks = s' := (List.getElem?_eq_some_iff.1 hs').2
              simp [qAk,qAn,qAl,qAi,qAg,qAe,qAb,qAd,qAa,qAj,qAf,qAc,BodyK,resVs,resV,retV,qAm,qAh,qAr,qAq,qAp,qAo,qEf,qCu,qDo,qAu,qAw,qCx,qEb,qEi,qCv,qCt,qCs,qCq,qDt,qDp,qCz,qGr,qEh,qGs,qEg,qCp,qDq,qDr,qDe,qDg,f0,f3,f4,f5,f7,f9,f55,f56,f57,hjf,hk,hk0,hkn,wj,ho',hs',hkn',hre]
              refine vmeet_call (x := o') (y := x) ?_
              obtain ⟨y,hy⟩ : ∃ y,y = meet4 o' x := ⟨_,rfl⟩
              rw [← hy]
              have hp3 := at_old (L := [bx (c4 y) 2]) hre
              have hq4 : q.length + 1 ≤ lim := by
                have h1 := v.qlen
                have h2 := wgt_le v.olen v.slen v.bare
                simp [lim]; omega
              have hdr : ((pre ++ q.map fun i : Nat => vI i).drop pre.length).take q.length = q.map fun i : Nat => vI i := by rw [List.drop_left,List.take_of_length_le (by simp)]
              by_cases hso : s' = true ∧ y = o'
              · obtain ⟨rfl,hyo⟩ := hso
                have hd := d.same v hxb hk ho' (by rw [← hy]; exact hyo) hs'
                simp [qAk,qAn,qAl,qAi,qAg,qAe,qAb,qAd,qAa,qAj,qAf,qAc,BodyK,resVs,resV,retV,qAm,qAh,qAr,qAq,qAp,qAo,qEf,qCu,qDo,qAu,qAw,qCx,qEb,qEi,qCv,qCt,qCs,qCq,qDt,qDp,qCz,qGr,qEh,qGs,qEg,qCp,qDq,qDr,qDe,qDg,callK_def,f0,f3,f4,f5,f7,f9,f55,f56,f57,hkn',ho',hs',hyo,wj]
                exact .go (j1,out,seen,q,pre,ver,rest ++ [bx (c4 y) 2]) (by simp only []; omega) ⟨by simp [f0],by simp [f3],by simp [f4],by simp [f5],by simp [f7],by simp [f9],hp3,by simp [f55],by simp [f56],by simp,by simp only []; omega,v,by rw [hj1]; exact hd,hvi,hM,by simp [hyo]⟩
              · have hnew : meet4 o' x ≠ o' ∨ s' = false := by
                  rw [← hy]
                  cases s' with
                  | true => exact .inl fun e => hso ⟨rfl,e⟩
                  | false => exact .inr rfl
                obtain ⟨n1,n2,n3⟩ := v.new d hxb hk ho' hs' hvi hls hc hxF hnew
                rw [← hy] at n1 n2 n3
                have h2 := wgt_le n1.olen n1.slen n1.bare
                have hp5 := at_old (L := [bx (c4 y) 2,bx [vI (kk : Int)] 1]) hre
                have hvi' : Vis (seen.set kk true) i := by
                  rcases hvi with e | e
                  · exact .inl e
                  · refine .inr ?_
                    rw [seen_set hks,e]
                    simp
                cases hs0 : s' with
                | false =>
                  rw [hs0] at hs' hgs
                  by_cases hyo : y = o'
                  · subst hyo
                    simp [qAk,qAn,qAl,qAi,qAg,qAe,qAb,qAd,qAa,qAj,qAf,qAc,BodyK,resVs,resV,retV,qAm,qAh,qAr,qAq,qAp,qAo,qEf,qCu,qDo,qAu,qAw,qCx,qEb,qEi,qCv,qCt,qCs,qCq,qDt,qDp,qCz,qGr,qEh,qGs,qEg,qCp,qDq,qDr,qDe,qDg,callK_def,f0,f3,f4,f5,f7,f9,f55,f56,f57,hkn',ho',hs',wj,hko,hks,hq4,hdr,hgo,hgs]
                    exact .go (j1,out.set kk y,seen.set kk true,q ++ [kk],[],ver + 1,rest ++ [bx (c4 y) 2,bx [vI (kk : Int)] 1]) (by simp only []; omega) ⟨by simp [f0],by simp [f3],by simp [f4],by simp [f5],by simp,by simp [f9],hp5,by simp [f55],by simp [f56],by simp,by simp only []; omega,n1,by rw [hj1]; exact n2,hvi',by simp only [List.length_append,List.length_singleton]; omega,by simp [List.take_of_length_le]⟩
                  · simp [qAk,qAn,qAl,qAi,qAg,qAe,qAb,qAd,qAa,qAj,qAf,qAc,BodyK,resVs,resV,retV,qAm,qAh,qAr,qAq,qAp,qAo,qEf,qCu,qDo,qAu,qAw,qCx,qEb,qEi,qCv,qCt,qCs,qCq,qDt,qDp,qCz,qGr,qEh,qGs,qEg,qCp,qDq,qDr,qDe,qDg,callK_def,f0,f3,f4,f5,f7,f9,f55,f56,f57,hkn',ho',hs',hyo,wj,hko,hks,hq4,hdr,hgo,hgs]
                    exact .go (j1,out.set kk y,seen.set kk true,q ++ [kk],[],ver + 1,rest ++ [bx (c4 y) 2,bx [vI (kk : Int)] 1]) (by simp only []; omega) ⟨by simp [f0],by simp [f3],by simp [f4],by simp [f5],by simp,by simp [f9],hp5,by simp [f55],by simp [f56],by simp,by simp only []; omega,n1,by rw [hj1]; exact n2,hvi',by simp only [List.length_append,List.length_singleton]; omega,by simp [List.take_of_length_le]⟩
                | true =>
                  rw [hs0] at hs' hgs
                  have hyo : ¬ y = o' := fun e => hso ⟨hs0,e⟩
                  simp [qAk,qAn,qAl,qAi,qAg,qAe,qAb,qAd,qAa,qAj,qAf,qAc,BodyK,resVs,resV,retV,qAm,qAh,qAr,qAq,qAp,qAo,qEf,qCu,qDo,qAu,qAw,qCx,qEb,qEi,qCv,qCt,qCs,qCq,qDt,qDp,qCz,qGr,qEh,qGs,qEg,qCp,qDq,qDr,qDe,qDg,callK_def,f0,f3,f4,f5,f7,f9,f55,f56,f57,hkn',ho',hs',hyo,wj,hko,hks,hq4,hdr,hgo,hgs]
                  exact .go (j1,out.set kk y,seen.set kk true,q ++ [kk],[],ver + 1,rest ++ [bx (c4 y) 2,bx [vI (kk : Int)] 1]) (by simp only []; omega) ⟨by simp [f0],by simp [f3],by simp [f4],by simp [f5],by simp,by simp [f9],hp5,by simp [f55],by simp [f56],by simp,by simp only []; omega,n1,by rw [hj1]; exact n2,hvi',by simp only [List.length_append,List.length_singleton]; omega,by simp [List.take_of_length_le]⟩
        · have hjf : ¬ (j : Int) < l.length := by omega
          simp [qAk,qAn,qAl,qAi,qAg,qAe,qAb,qAd,qAa,qAj,qAf,qAc,BodyK,resVs,resV,retV,qAm,qAh,qAr,qAq,qAp,qAo,qEf,qCu,qDo,qAu,qAw,qCx,qEb,qEi,qCv,qCt,qCs,qCq,qDt,qDp,qCz,qGr,qEh,qGs,qEg,qCp,qDq,qDr,qDe,qDg,f57,f56,hjf]
          exact .go (out,seen,q,pre,ver,rest) (by simp only [List.length_cons]; rw [hM0] at hM; omega) ⟨by simp [f0],by simp [f3],by simp [f4],by simp [f5],by simp [f7],v.done d (by omega) hc hls,rfl⟩
    · exact VInv.init hm
    · subst ho0; rfl
end
end Pm
/- Numbers that are known: the document's rows.
   No condition: plain lemmas. -/
namespace Pm
set_option linter.unusedSimpArgs false
set_option linter.unusedVariables false
open Go Am

/-- No less than what comes to one. -/
structure UB (code : List Ins) (out : List V4) (i : Nat) (c : V4) : Prop where
  start : i = 0 → le4 one4 c
  flow : ∀ k x,Flow code (rowF out) k i x → le4 x c
structure RInv (code : List Ins) (out : List V4) : Prop where
  olen : out.length = code.length
  bare : ∀ i,Bare4 (rowF out i)
  least : ∀ F,Holds code F → ∀ i,le4 (rowF out i) (F i)
  low : ∀ i c,Bare4 c → UB code out i c → le4 (rowF out i) c
def Stable (code : List Ins) (out : List V4) (i : Nat) : Prop := Come (succs code) i → UB code out i (rowF out i)
/-- What comes to one,so far. -/
structure Part (code : List Ins) (out : List V4) (i k j : Nat) (x : V4) : Prop where
  bare : Bare4 x
  start : i = 0 → le4 one4 x
  flow : ∀ k' c l,Come (succs code) k' → code[k']? = some c → (succs code)[k']? = some l → (k' < k ∧ (i : Int) ∈ l ∨ k' = k ∧ (i : Int) ∈ l.take j) → le4 (doV c (rowF out k')) x
  least : ∀ c,Bare4 c → UB code out i c → le4 x c
theorem rowF_zero {n i : Nat} : rowF (List.replicate n zero4) i = zero4 := by
  unfold rowF
  rw [List.getElem?_replicate]
  split <;> rfl
theorem RInv.init {code : List Ins} : RInv code (List.replicate code.length zero4) :=
  ⟨by simp,fun i => by rw [rowF_zero]; exact bare_zero,fun F hF i => by rw [rowF_zero]; exact zero_le _,fun i c _ _ => by rw [rowF_zero]; exact zero_le _⟩
theorem RInv.end {code : List Ins} {out : List V4} (v : RInv code out) (h : ∀ i,i < code.length → Stable code out i) : Least code out := by
  refine ⟨v.olen,fun hn => ⟨v.bare,(h 0 hn (.start (by rw [qDc]; exact hn))).start rfl,?_⟩,v.least⟩
  intro i k x hk hf
  obtain ⟨h1,c,l,h2,h3,h4,h5⟩ := id hf
  exact (h k hk (.step h1 h3 h4 (by rw [qDc]; exact hk))).flow i x hf
theorem Part.init {code : List Ins} {out : List V4} {i : Nat} : Part code out i 0 0 (if i = 0 then one4 else zero4) := by
  refine ⟨?_,?_,?_,?_⟩
  · split
    · exact bare_one4
    · exact bare_zero
  · intro h; rw [if_pos h]; exact .refl _
  · rintro k' c l _ _ _ (⟨h,_⟩ | ⟨_,h⟩)
    · omega
    · simp at h
  · intro c _ hc
    split
    · rename_i h; exact hc.start h
    · exact zero_le _
theorem Part.skip {code : List Ins} {out : List V4} {i k j : Nat} {x : V4} {l : List Int} {y : Int} (p : Part code out i k j x) (hl : (succs code)[k]? = some l) (hy : l[j]? = some y) (hn : y ≠ i) : Part code out i k (j + 1) x := by
  refine ⟨p.bare,p.start,?_,p.least⟩
  intro k' c l' h1 h2 h3 h4
  refine p.flow k' c l' h1 h2 h3 ?_
  rcases h4 with h4 | ⟨rfl,h4⟩
  · exact .inl h4
  · rw [hl] at h3; cases h3
    rw [List.take_add_one,hy] at h4
    simp only [Option.toList_some,List.mem_append,List.mem_singleton] at h4
    rcases h4 with h4 | h4
    · exact .inr ⟨rfl,h4⟩
    · exact absurd h4.symm hn
theorem Part.take {code : List Ins} {out : List V4} {i k j : Nat} {x o : V4} {l : List Int} {c : Ins} (p : Part code out i k j x) (hk : Come (succs code) k) (hc : code[k]? = some c) (hl : (succs code)[k]? = some l) (ho : out[k]? = some o) (hy : l[j]? = some (i : Int)) :
    Part code out i k (j + 1) (meet4 x (doV c o)) := by
  have hb := meet4_bare x (doV c o)
  have hr := qFf ho
  refine ⟨hb,fun h => (p.start h).trans p.bare hb (meet4_left p.bare),?_,?_⟩
  · intro k' c' l' h1 h2 h3 h4
    by_cases hkk : k' = k
    · subst hkk
      rw [hc] at h2; cases h2
      rw [hr]
      exact meet4_right qHd
    · refine (p.flow k' c' l' h1 h2 h3 ?_).trans p.bare hb (meet4_left p.bare)
      rcases h4 with h4 | h4
      · exact .inl h4
      · exact absurd h4.1 hkk
  · intro d hd hu
    refine meet4_least p.bare qHd (p.least d hd hu) ?_
    rw [← hr]
    exact hu.flow k _ ⟨hk,c,l,hc,hl,List.mem_of_getElem? hy,rfl⟩
theorem Part.next {code : List Ins} {out : List V4} {i k j : Nat} {x : V4} {l : List Int} (p : Part code out i k j x) (hl : (succs code)[k]? = some l) (hj : l.length ≤ j ∨ ¬ Come (succs code) k) : Part code out i (k + 1) 0 x := by
  refine ⟨p.bare,p.start,?_,p.least⟩
  intro k' c l' h1 h2 h3 h4
  refine p.flow k' c l' h1 h2 h3 ?_
  rcases h4 with ⟨h4,h5⟩ | ⟨_,h4⟩
  · by_cases hk : k' = k
    · subst hk
      rw [hl] at h3; cases h3
      rcases hj with hj | hj
      · exact .inr ⟨rfl,by rw [List.take_of_length_le hj]; exact h5⟩
      · exact absurd h1 hj
    · exact .inl ⟨by omega,h5⟩
  · simp at h4
theorem Part.ub {code : List Ins} {out : List V4} {i k : Nat} {x : V4} (p : Part code out i k 0 x) (hk : code.length ≤ k) : UB code out i x := by
  refine ⟨p.start,?_⟩
  rintro k' y ⟨h1,c,l,h2,h3,h4,rfl⟩
  exact p.flow k' c l h1 h2 h3 (.inl ⟨Nat.lt_of_lt_of_le (List.getElem?_eq_some_iff.1 h2).1 hk,h4⟩)
/-- Something new is known. -/
theorem RInv.set {code : List Ins} {out : List V4} {i k : Nat} {x o : V4} (v : RInv code out) (p : Part code out i k 0 x) (hk : code.length ≤ k) (ho : out[i]? = some o) (hi : Come (succs code) i) (hx : x ≠ o) :
    RInv code (out.set i x) ∧ (out.map ht4).sum < ((out.set i x).map ht4).sum := by
  have hu := p.ub hk
  have hio := (List.getElem?_eq_some_iff.1 ho).1
  have hic : i < code.length := by rw [← v.olen]; exact hio
  have hob : Bare4 o := by rw [← qFf ho]; exact v.bare i
  have hox : le4 o x := by rw [← qFf ho]; exact v.low i x p.bare hu
  have hR : ∀ i',rowF (out.set i x) i' = if i' = i then x else rowF out i' := fun i' => rowF_set hio
  have hup : ∀ i',le4 (rowF out i') (rowF (out.set i x) i') := fun i' => by
    rw [hR]; split
    · rename_i e; rw [e,qFf ho]; exact hox
    · exact .refl _
  refine ⟨⟨by simp [v.olen],?_,?_,?_⟩,?_⟩
  · intro i'; rw [hR]; split
    · exact p.bare
    · exact v.bare i'
  · intro F hF i'
    rw [hR]; split
    · rename_i e
      rw [e]
      refine p.least _ (hF.bare i) ⟨fun h => by rw [h]; exact hF.start,?_⟩
      rintro k' y ⟨h1,c,l,h2,h3,h4,rfl⟩
      exact (doV_mono (v.least F hF k')).trans qHd (hF.bare i) (hF.flow k' i _ hic ⟨h1,c,l,h2,h3,h4,rfl⟩)
    · exact v.least F hF i'
  · intro i' c hc hu'
    have hu2 : UB code out i' c := by
      refine ⟨hu'.start,?_⟩
      rintro k' y ⟨h1,d,l,h2,h3,h4,rfl⟩
      exact (doV_mono (hup k')).trans qHd hc (hu'.flow k' _ ⟨h1,d,l,h2,h3,h4,rfl⟩)
    rw [hR]; split
    · rename_i e; rw [e] at hu2; exact p.least c hc hu2
    · exact v.low i' c hc hu2
  · have w1 := sum_set ht4 out i o x ho
    have w3 := (hox.ht hob p.bare).2 (Ne.symm hx)
    omega
theorem RInv.le {code : List Ins} {out : List V4} (v : RInv code out) : (out.map ht4).sum ≤ 8 * code.length := by
  have h1 := sum_le ht4 8 out fun x hx => by
    obtain ⟨i,hi,rfl⟩ := List.getElem_of_mem hx
    have := v.bare i
    rw [qFf (x := out[i]) (by simp [hi])] at this
    exact this.ht
  rw [v.olen] at h1; exact h1
theorem Stable.of {code : List Ins} {out : List V4} {i k : Nat} {x : V4} (p : Part code out i k 0 x) (hk : code.length ≤ k) (h : ¬ Come (succs code) i ∨ out[i]? = some x) : Stable code out i := by
  intro hi
  rcases h with h | h
  · exact absurd hi h
  · rw [qFf h]; exact p.ub hk
end Pm
/- Numbers that are known: the document's rows,walked.
   No condition: plain lemmas. -/
namespace Pm
set_option linter.unusedSimpArgs false
set_option linter.unusedVariables false
open Go Am
open Go.Proofs.Try (prog)

section
variable {h : Heap} {K : Value → Heap → Prop}
end
end Pm
