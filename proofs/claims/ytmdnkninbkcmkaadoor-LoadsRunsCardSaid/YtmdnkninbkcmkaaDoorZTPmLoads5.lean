/- Codes of the program's functions, as a program printed them, and that they are what the program's functions are compiled to.
   No condition: plain facts. -/
import Derived.KernelRfl
import Derived.Test.YtmdnkninbkcmkaaDoorZTPm5
import Derived.Test.YtmdnkninbkcmkaaDoorProg
import Derived.Test.YtmdnkninbkcmkaaDoorZTPmLoads3
import Derived.Test.YtmdnkninbkcmkaaDoorZTPmFlow1
namespace Pm
set_option linter.unusedSimpArgs false
set_option linter.unusedVariables false
open Go Am
set_option maxRecDepth 100000
def qNp:AFn :=
⟨(O [⟨some 1,none,.e (.box 7 7 (.tmp 0)),[]⟩,⟨some 2,none,.e (.new [(.int .i64 0),(.int .i64 0),(.int .i64 0),(.slice none 0 0),(.int .i64 0),(.int .i64 0),(.slice none 0 0)] 7),[]⟩]
 (O [LA 5 7 1,⟨some 3,none,.e (.new [(.int .i64 0),(.int .i64 0),(.int .i64 0),(.slice none 0 0),(.int .i64 0),(.int .i64 0),(.slice none 0 0)] 7),[]⟩,⟨none,none,.e (.store 7 (.tmp 3) (.tmp 5)),[]⟩]
 (O [FA 6 6 3,⟨none,none,.e (.store 1 (.tmp 6) (.const (.slice none 0 0))),[]⟩]
 (.seq (O [N 4 0]
 (.block 0 (.loop (.seq (O [V 7 4,FA 8 6 1,L 9 8,Ln 10 9,B 11 .lss 7 10]
 (.cond (.tmp 11)
 .skip
 (.exit 0)))
 (.seq (.block 1 (.ops [FA 14 6 3,L 15 14,FA 16 6 1,L 17 16,V 18 4,X 19 1 17 18,L 20 19,⟨some 21,none,.st (.call 14 [(.tmp 20)]),[.load (.tmp 14)]⟩,F 22 0 21,⟨some 23,none,.st (.e (.lit [(.slice none 0 0)] 1 1 [(0,1,(.tmp 22))])),[.load (.tmp 14)]⟩,Ap 24 1 15 23,FA 25 6 3,S 25 24]))
 (.ops [V 12 4,Bn 13 .add 12 1,V 4 13]))))))
 (O [LA 26 7 3,⟨none,none,.e (.store 7 (.tmp 2) (.tmp 26)),[]⟩]
 .ret))))),[.cells 2 7],27⟩
theorem c_changed17_is:qCx Proofs.Tryd.prog Proofs.Tryd.f6=some (qCb qNp):=by kernel_rfl
theorem call_changed17:qDd 6 qNp 27:=fun hl k=>qBk (by kernel_rfl) (by kernel_rfl) c_changed17_is (by kernel_rfl) hl k
def qNq:AFn :=
⟨(O [T 4 false]
 (O [V 11 0,⟨some 12,none,.call 5 [(.tmp 11)],[]⟩,⟨some 5,none,.e (.new [(.int .i64 0),(.int .i64 0),(.int .i64 0),(.slice none 0 0),(.int .i64 0),(.int .i64 0),(.slice none 0 0)] 7),[]⟩,⟨none,none,.e (.store 7 (.tmp 5) (.tmp 12)),[]⟩]
 (O [LA 13 7 5,⟨some 14,none,.call 6 [(.tmp 13)],[]⟩,⟨some 6,none,.e (.new [(.int .i64 0),(.int .i64 0),(.int .i64 0),(.slice none 0 0),(.int .i64 0),(.int .i64 0),(.slice none 0 0)] 7),[]⟩,⟨none,none,.e (.store 7 (.tmp 6) (.tmp 14)),[]⟩]
 (.seq (O [LA 15 7 6,⟨some 16,none,.call 7 [(.tmp 15)],[]⟩,Bn 17 .neq 16 0]
 (.cond (.tmp 17)
 (O [T 4 false]
 .ret)
 .skip))
 (O [LA 19 7 5,V 20 1,⟨some 21,none,.st (.call 9 [(.tmp 20)]),[.loadA 7 (.tmp 5)]⟩,Z 1 21,⟨some 22,none,.call 8 [(.tmp 19),(.tmp 21)],[]⟩,V 18 22,⟨some 23,none,.q (.ext (.tmp 18) 0),[]⟩,⟨some 24,none,.q (.ext (.tmp 18) 1),[]⟩,⟨some 7,none,.e (.new [(.slice none 0 0),(.int .u8 0),(.slice none 0 0),(.slice none 0 0)] 4),[]⟩,⟨none,none,.e (.store 4 (.tmp 7) (.tmp 23)),[]⟩,V 8 24]
 (O [LA 26 7 6,V 27 1,⟨some 28,none,.st (.call 9 [(.tmp 27)]),[.loadA 7 (.tmp 6)]⟩,Z 1 28,⟨some 29,none,.call 8 [(.tmp 26),(.tmp 28)],[]⟩,V 25 29,⟨some 30,none,.q (.ext (.tmp 25) 0),[]⟩,⟨some 31,none,.q (.ext (.tmp 25) 1),[]⟩,⟨some 9,none,.e (.new [(.slice none 0 0),(.int .u8 0),(.slice none 0 0),(.slice none 0 0)] 4),[]⟩,⟨none,none,.e (.store 4 (.tmp 9) (.tmp 30)),[]⟩,V 10 31]
 (O [⟨some 32,none,.call 10 [],[]⟩,V 33 32,Gd 33 true (LA 34 7 5),Gd 33 true (FA 35 3 7),Gd 33 true (L 36 35),⟨some 37,some (33,true),.call 11 [(.tmp 34),(.tmp 36)],[]⟩,Gd 33 true (V 38 37),Gd 38 false (FA 39 0 7),Gd 38 false (L 40 39),Gd 38 false (FA 41 0 9),Gd 38 false (L 42 41),⟨some 43,some (38,false),.call 12 [(.tmp 40),(.tmp 42)],[]⟩,Gd 38 false (V 44 43),Gd 44 true (FA 45 1 7),Gd 44 true (L 46 45),Gd 44 true (FA 47 1 9),Gd 44 true (L 48 47),Gd 44 true (B 49 .eql 46 48),Gd 38 false (Pk 50 44 49 false),Gd 38 false (V 51 50),Gd 51 true (FA 52 2 7),Gd 51 true (L 53 52),Gd 51 true (FA 54 2 9),Gd 51 true (L 55 54),⟨some 56,some (51,true),.call 12 [(.tmp 53),(.tmp 55)],[]⟩,Gd 38 false (Pk 57 51 56 false),⟨some 58,some (33,true),.q (.pick (.tmp 38) (.const (.bool true)) (.tmp 57)),[]⟩,Pk 59 33 58 false,V 4 59]
 .ret))))))),[.tmp 4],60⟩
theorem c_LoadsRuns_is:qCx Proofs.Tryd.prog Proofs.Tryd.f3=some (qCb qNq):=by kernel_rfl
theorem call_LoadsRuns:qDd 3 qNq 60:=fun hl k=>qBk (by kernel_rfl) (by kernel_rfl) c_LoadsRuns_is (by kernel_rfl) hl k
end Pm

/- Loads of what is known: of straight code.
   No condition: plain lemmas. -/

namespace Pm
set_option linter.unusedSimpArgs false
set_option linter.unusedVariables false
open Go Am
open Go.Proofs.Tryd (prog)

theorem loads_come {code:List Ins} (hs:Strt code):∀ i,i < code.length→Come (succs code) i
  | 0,h=>.start (by rw [qCv]; exact h)
  | i+1,h=>by
    have hi:i < code.length:=by omega
    refine .step (loads_come hs i hi) (l:=qDu i code[i]) (by rw [qMc,List.getElem?_eq_getElem hi]; rfl) ?_ (by rw [qCv]; exact h)
    rw [nextsOf_plain (hs _ (List.getElem_mem hi))];exact List.mem_singleton.2 rfl
def qXh (c:Ins) (x:Nat):Nat:=andN x (qIl c) ||| addN c
def kn (code:List Ins):Nat→Nat
  | 0=>0
  | i+1=>match code[i]? with | some c=>qXh c (kn code i) | none=>0
theorem kn_lt (code:List Ins):∀ i,kn code i < big
  | 0=>by show 0 < big; decide
  | i+1=>by
    unfold kn
    split
    . exact qVs (qUq (kn_lt code i)) (addN_lt _)
    . decide
theorem loads_straight {code:List Ins} (hs:Strt code) {k out:List Nat} (h:Solved (qHn code) k out) {i:Nat} (hi:i < code.length):gN k i=kn code i:=by
  have hn:(qHn code).n=code.length:=qCv code;refine ext_bits (h.ilt i) (kn_lt code i) fun r hr=>?_
  have ha:=h.ahead i r (by rw [hn]; exact hi) hr
  have hmk:(qHn code).marked (gN k i) r=!(gN k i).testBit r:=by
    unfold Prob.marked;show ((gN k i).testBit r != true)=_;cases (gN k i).testBit r<;>rfl
  rw [hmk] at ha;have nx:∀ j,j < code.length→qEk (succs code) j=[((j+1:Nat):Int)]:=fun j hj=>by
    rw [nexts_succs (List.getElem?_eq_getElem hj),nextsOf_plain (hs _ (List.getElem_mem hj))]
  have fr:∀ (a b:Nat),a < code.length→b < code.length→((a:Int)∈qEk (qHn code).froms b↔b=a+1):=fun a b ha hb=>by
    rw [qWa (p:=qHn code) (by rw [hn]; exact ha) (by rw [hn]; exact hb)]
    show (b:Int)∈qEk (qFc (succs code)) a↔_;rw [qIs,nx a ha,qCv];constructor
    . rintro ⟨j,h1,h2,h3⟩
      have:=List.mem_singleton.1 h3;omega
    . intro e
      exact ⟨b,rfl,hb,by rw [e]; exact List.mem_singleton.2 rfl⟩
  have gen_pass:∀ j c,code[j]?=some c→gN (qHn code).gen j=addN c∧gN (qHn code).kill j=qIl c:=fun j c hc=>by
    constructor
    . show gN (code.map addN) j=_; rw [qVc,hc]
    . show gN (code.map qIl) j=_; rw [qVc,hc]
  have key:∀ j,j < code.length→(Mk (qHn code) r false j↔(kn code j).testBit r=false):=by
    intro j
    induction j with
    | zero =>
      intro hj;constructor
      . intro _; simp [kn]
      . intro _
        exact .start (by rw [hn]; exact hj) (by show (if false then _ else decide (0=0))=true; rfl) (by show ((0:Nat).testBit r != true)=true; simp)
    | succ j ih =>
      intro hj;have hj':j < code.length:=by omega
      have hc:code[j]?=some code[j]:=List.getElem?_eq_getElem hj';obtain ⟨g1,g2⟩:=gen_pass j _ hc;have hkn:kn code (j+1)=qXh code[j] (kn code j):=by
        show (match code[j]? with | some c=>qXh c (kn code j) | none=>0)=_
        rw [hc]
      have htrue:Mk (qHn code) r true j↔(qXh code[j] (kn code j)).testBit r=false:=by
        have e:(qXh code[j] (kn code j)).testBit r=((kn code j).testBit r && !(qIl code[j]).testBit r || (addN code[j]).testBit r):=by
          unfold qXh; rw [Nat.testBit_or,qUr]
        rw [e];constructor
        . intro hm
          cases hm with
          | gen _ hg =>
            unfold Prob.genM at hg;rw [g1,g2] at hg;have hg':(!(addN code[j]).testBit r && (qIl code[j]).testBit r)=true:=hg;simp only [Bool.and_eq_true,Bool.not_eq_true'] at hg';rw [hg'.1,hg'.2]; simp
          | pass hp hq =>
            unfold Prob.passM at hq;rw [g1,g2] at hq;have hq':(!(addN code[j]).testBit r)=true:=hq;rw [(ih hj').1 hp];simp only [Bool.not_eq_true'] at hq';rw [hq']; rfl
        . intro hm
          simp only [Bool.or_eq_false_iff,Bool.and_eq_false_iff,Bool.not_eq_false'] at hm;obtain ⟨hm1,hm2⟩:=hm;rcases hm1 with hm1 | hm1
          . refine .pass ((ih hj').2 hm1) ?_
            unfold Prob.passM;rw [g1,g2];show (!(addN code[j]).testBit r)=true;rw [hm2]; rfl
          . refine .gen (by rw [hn]; exact hj') ?_
            unfold Prob.genM;rw [g1,g2];show (!(addN code[j]).testBit r && (qIl code[j]).testBit r)=true;rw [hm2,hm1]; rfl
      rw [hkn,← htrue];constructor
      . intro hm
        cases hm with
        | start _ he _ =>
          have:(if false then _ else decide (j+1=0))=true:=he
          simp at this
        | @flow _ a _ hf hm =>
          have hal:a < code.length:=by have:=hm.lt; rwa [hn] at this
          have:=(fr a (j+1) hal hj).1 hf;obtain rfl:a=j:=by omega
          exact hm
      . intro hm
        exact .flow (by rw [hn]; exact hj) ((fr j (j+1) hj' hj).2 rfl) hm
  have:=ha.trans (key i hi);cases h1:(gN k i).testBit r<;>cases h2:(kn code i).testBit r<;>rw [h1,h2] at this<;>simp at this ⊢
theorem qJn.straight {code out:List Ins} {fm:List Int} (h:qJn code out fm) (hs:Strt code) (hl:code.length≤60):out.length=code.length∧fm=ownL code.length∧∀ i c,code[i]?=some c→out[i]?=some (qPy c (kn code i)):=by
  unfold qJn at h;rw [if_neg (by omega)] at h
  obtain ⟨⟨k,hk,hL⟩,hf⟩:=h;unfold qLz at hk;rw [if_neg (by omega)] at hk
  obtain ⟨o,hS⟩:=hk;refine ⟨hL.len,hf,fun i c hc=>?_⟩
  have hi:=(List.getElem?_eq_some_iff.1 hc).1;rw [hL.come i c hc (loads_come hs i hi),loads_straight hs hS hi]
end Pm

/- Loads of what is known: the chapter's example, and two laws, walked.
   No condition: plain lemmas. -/

namespace Pm
set_option linter.unusedSimpArgs false
set_option linter.unusedVariables false
open Go Am
open Go.Proofs.Tryd (prog)

def outD (code:List Ins):List Ins:=(List.range code.length).map fun i=>qPy (code[i]?.getD nopI) (kn code i)
theorem qJn.eq {code out:List Ins} {fm:List Int} (h:qJn code out fm) (hs:Strt code) (hl:code.length≤60):out=outD code∧fm=ownL code.length:=by
  obtain ⟨h1,h2,h3⟩:=h.straight hs hl;refine ⟨List.ext_getElem? fun i=>?_,h2⟩
  by_cases hi:i < code.length
  . have hc:code[i]?=some code[i]:=List.getElem?_eq_getElem hi
    rw [h3 i _ hc];simp [outD,hi]
  . rw [List.getElem?_eq_none (by omega),List.getElem?_eq_none (by simp [outD]; omega)]
def c17a:List Ins:=[⟨7,0,1,0⟩,⟨7,2,1,0⟩]
def c17b:List Ins:=[⟨7,0,1,0⟩,⟨13,0,0,0⟩,⟨7,2,1,0⟩]
def c17c:List Ins:=[⟨7,0,1,0⟩,⟨0,0,0,0⟩]
theorem strt17a:Strt c17a:=by unfold Strt c17a; decide
theorem strt17b:Strt c17b:=by unfold Strt c17b; decide
theorem strt17c:Strt c17c:=by unfold Strt c17c; decide
theorem known17c {b:List Nat} (h:qLz c17c b):b=[0,16]:=by
  have hl:=(h.len (by decide)).1
  unfold qLz at h;rw [if_neg (by decide)] at h
  obtain ⟨o,h⟩:=h;refine qWx (by rw [hl]; rfl) fun i hi=>?_
  rw [hl] at hi;rw [loads_straight strt17c h hi];have hi2:i=0∨i=1:=by change i < 2 at hi; omega
  rcases hi2 with rfl | rfl<;>decide +kernel
section
variable {h : Heap} {K : Value → Heap → Prop}
set_option maxHeartbeats 4000000 in
theorem known17_call (hk:K (vB true) h):qBn prog 10 [] h K:=by
  refine Pure.go (Pure.one (p:=vB true) rfl fun h=>?_) hk
  refine call_known17 (by simp) ?_
  have hfa:frzV (h++[bx [.int .u8 7,.int .i64 0,.int .i64 1,.int .i64 0,.int .u8 7,.int .i64 2,.int .i64 1,.int .i64 0] 4]) 4 (.slice (some ⟨h.length,0,none⟩) 2 0)=some (vM 4 vIns c17a,h++[.row ⟨c17a.flatMap vIns,4,0,false⟩]):=frzV_new (h:=h) rfl rfl rfl;have hfb:∀ a b:Ob,frzV (h++[a,b,bx [.int .u8 7,.int .i64 0,.int .i64 1,.int .i64 0,.int .u8 13,.int .i64 0,.int .i64 0,.int .i64 0,.int .u8 7,.int .i64 2,.int .i64 1,.int .i64 0] 4]) 4 (.slice (some ⟨h.length+2,0,none⟩) 3 0)=some (vM 4 vIns c17b,h++[a,b,.row ⟨c17b.flatMap vIns,4,0,false⟩]):=fun a b=>qWw (h:=h) (rs:=[a,b,bx [.int .u8 7,.int .i64 0,.int .i64 1,.int .i64 0,.int .u8 13,.int .i64 0,.int .i64 0,.int .i64 0,.int .u8 7,.int .i64 2,.int .i64 1,.int .i64 0] 4]) (j:=2) (e:=4) (n:=3) (ver:=0) (off:=0) rfl (by decide) rfl
  have hfc:∀ a b c d:Ob,frzV (h++[a,b,c,d,bx [.int .u8 7,.int .i64 0,.int .i64 1,.int .i64 0,.int .u8 0,.int .i64 0,.int .i64 0,.int .i64 0] 4]) 4 (.slice (some ⟨h.length+4,0,none⟩) 2 0)=some (vM 4 vIns c17c,h++[a,b,c,d,.row ⟨c17c.flatMap vIns,4,0,false⟩]):=fun a b c d=>qWw (h:=h) (rs:=[a,b,c,d,bx [.int .u8 7,.int .i64 0,.int .i64 1,.int .i64 0,.int .u8 0,.int .i64 0,.int .i64 0,.int .i64 0] 4]) (j:=4) (e:=4) (n:=2) (ver:=0) (off:=0) rfl (by decide) rfl
  simp [qAl,qAo,qAm,qAi,qAf,qAe,qAb,qAc,qAa,qAj,qAg,qAd,qAu,qAv,resV,retV,qAn,qAh,qAs,qAr,qAq,qAp,qRp,hfa];refine qPh (code:=c17a) (by decide) (by decide) fun oa fa ha=>?_
  obtain ⟨rfl,rfl⟩:=ha.eq strt17a (by decide)
  simp [qAl,qAo,qAm,qAi,qAf,qAe,qAb,qAc,qAa,qAj,qAg,qAd,qAu,qAv,resV,retV,qAn,qAh,qAs,qAr,qAq,qAp,callK_def,qYu,hfb,hfc];refine qPh (code:=c17b) (by decide) (by decide) fun oa fa ha=>?_
  obtain ⟨rfl,rfl⟩:=ha.eq strt17b (by decide)
  simp [qAl,qAo,qAm,qAi,qAf,qAe,qAb,qAc,qAa,qAj,qAg,qAd,qAu,qAv,resV,retV,qAn,qAh,qAs,qAr,qAq,qAp,callK_def,qYu,hfb,hfc];refine qNk (code:=c17c) (by decide) (by decide) fun b hb=>?_
  obtain rfl:=known17c hb;have ea:outD c17a=[⟨7,0,1,0⟩,⟨2,2,0,0⟩]:=by decide +kernel
  have eb:outD c17b=[⟨7,0,1,0⟩,⟨13,0,0,0⟩,⟨7,2,1,0⟩]:=by decide +kernel
  simp [qAl,qAo,qAm,qAi,qAf,qAe,qAb,qAc,qAa,qAj,qAg,qAd,qAu,qAv,resV,retV,qAn,qAh,qAs,qAr,qAq,qAp,callK_def,ea,eb,vIns]
end
end Pm
