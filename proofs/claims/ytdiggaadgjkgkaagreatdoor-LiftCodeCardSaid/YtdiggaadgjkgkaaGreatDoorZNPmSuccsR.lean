/- Code: which places may be next, by the document's answer.
   No condition: plain lemmas. -/
import Derived.Test.YtdiggaadgjkgkaaGreatDoorZNPmSuccs
import Derived.Test.YtdiggaadgjkgkaaGreatDoorZNPmLoop
namespace Pm
set_option linter.unusedSimpArgs false
set_option linter.unusedVariables false
open Go Am
open Go.Proofs.Tryz (prog)

section
variable {h : Heap} {K : Value → Heap → Prop}
set_option maxHeartbeats 1000000 in
theorem RSuccs_call {code:List Ins} (hl:code.length < lim) (hk:K (vL (vL vI) (succs code)) h):qBl prog 32 [vM 4 vIns code] h K:=by
  refine Pure.go (Pure.list (f:=vL vI) (l:=succs code) (by simp) fun h=>?_) hk
  refine call_RSuccs (by simp) ?_
  simp [c_RSuccs];refine qEb (σ:=Nat) (fun i fr h'=>fr 0=vM 4 vIns code∧fr 4=vI i∧i≤code.length∧AccL (vL vI) h.length h' (fr 3) ((succs code).take i)∧qBs h.length h h') (fun i=>code.length - i) ?_ 0 ⟨by simp,by simp,by simp,by simpa using AccL.nil,.refl _ _⟩
  rintro i fr h' ⟨h0,h4,hi,ha,hkp⟩
  by_cases hlt:i < code.length
  . obtain ⟨x,hx⟩:∃ x,code[i]=x:=⟨_,rfl⟩
    have hx?:code[i]?=some x:=by rw [← hx]; exact List.getElem?_eq_getElem hlt
    obtain ⟨i1,hi1,wi⟩:=qBr (show i < lim by omega)
    have hif:(i:Int) < code.length:=by omega
    have hil:i < (succs code).length:=by rw [qBt]; exact hlt
    have hsi:(succs code)[i]=qCu i x:=by
      have:=qIo code i;rw [List.getElem?_eq_getElem hil,hx?] at this;exact Option.some.inj this
    have hlen:((succs code).take i).length < lim:=by simp [qBt]; omega
    have fin:∀ (fr:Fr) (v':Value) (h1 h2:Heap) (l:List Int),l=qCu i x→qBs h.length h h1→qBs h.length h1 h2→AccL (vL vI) h.length h2 v' ((succs code).take i++[l])→fr 0=vM 4 vIns code→fr 4=vI i1→fr 3=v' →
        Next (σ:=Nat) (fun i fr h'=>fr 0=vM 4 vIns code∧fr 4=vI i∧i≤code.length∧AccL (vL vI) h.length h' (fr 3) ((succs code).take i)∧qBs h.length h h') (fun i=>code.length - i) i fr h2:=by
      intro fr v' h1 h2 l hl k1 k2 ha' g0 g4 g3;refine .go i1 (by omega) ⟨g0,g4,by omega,?_,k1.trans k2⟩
      rw [g3,hi1,show (succs code).take (i+1)=(succs code).take i++[(succs code)[i]] from (List.take_append_getElem hil).symm,hsi,← hl];exact ha'
    have kp1:∀ r,qBs h.length h (h'++[.row r]):=fun r=>hkp.trans ⟨by simp,fun j hj=>List.getElem?_append_left (by have:=hkp.1; omega)⟩
    have ha1:∀ r,AccL (vL vI) h.length (h'++[.row r]) (fr 3) ((succs code).take i):=fun r=>ha.ext .app
    have hb1:∀ r:Row,h.length≤(h'++[Ob.row r]).length:=fun r=>by simp; exact Nat.le_succ_of_le hkp.1
    by_cases o10:x.op=10
    . simp [h0,h4,hif,hx?,vIns,o10,wi]
      refine (ha1 _).pushK (hb1 _) hlen (x:=[x.a]) (by simp) fun v' h'' q1 q2 _ _=>?_
      simp [h0,h4,wi];exact fin _ v' _ _ _ (by simp [qCu,o10,srt,qGz]) (kp1 _) q2 q1 (by simp [h0]) (by simp) (by simp)
    . have o10':¬ (x.op:Int)=10:=by omega
      by_cases o11:x.op=11
      . by_cases c1:x.b < i1
        . simp [h0,h4,hif,hx?,vIns,o11,wi,c1]
          refine (ha1 _).pushK (hb1 _) hlen (x:=[x.b,(i1:Int)]) (by simp) fun v' h'' q1 q2 _ _=>?_
          simp [h0,h4,wi];exact fin _ v' _ _ _ (by
            have:¬ (x.b=(i:Int)+1):=by omega
            have c1':x.b < (i:Int)+1:=by omega
            simp [qCu,o11,srt,qGz,c1',hi1,this]) (kp1 _) q2 q1 (by simp [h0]) (by simp) (by simp)
        . by_cases c2:(i1:Int) < x.b
          . simp [h0,h4,hif,hx?,vIns,o11,wi,c1,c2]
            refine (ha1 _).pushK (hb1 _) hlen (x:=[(i1:Int),x.b]) (by simp) fun v' h'' q1 q2 _ _=>?_
            simp [h0,h4,wi];exact fin _ v' _ _ _ (by
              have:¬ ((i:Int)+1=x.b):=by omega
              have c1':¬ x.b < (i:Int)+1:=by omega
              simp [qCu,o11,srt,qGz,c1',hi1,this]) (kp1 _) q2 q1 (by simp [h0]) (by simp) (by simp)
          . simp [h0,h4,hif,hx?,vIns,o11,wi,c1,c2]
            refine (ha1 _).pushK (hb1 _) hlen (x:=[(i1:Int)]) (by simp) fun v' h'' q1 q2 _ _=>?_
            simp [h0,h4,wi];exact fin _ v' _ _ _ (by
              have:x.b=(i:Int)+1:=by omega
              simp [qCu,o11,srt,qGz,hi1,this]) (kp1 _) q2 q1 (by simp [h0]) (by simp) (by simp)
      . have o11':¬ (x.op:Int)=11:=by omega
        simp [h0,h4,hif,hx?,vIns,o10',o11',wi];refine (ha1 _).pushK (hb1 _) hlen (x:=[(i1:Int)]) (by simp) fun v' h'' q1 q2 _ _=>?_
        simp [h0,h4,wi];exact fin _ v' _ _ _ (by simp [qCu,o10,o11,srt,qGz,hi1]) (kp1 _) q2 q1 (by simp [h0]) (by simp) (by simp)
  . simp [h0,h4,hlt,qAs,qAu,resV,retV]
    refine ⟨hkp,?_⟩;rw [List.take_of_length_le (by rw [qBt]; omega)] at ha
    exact ha
end
end Pm
