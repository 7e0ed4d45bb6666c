/- Codes of the program's functions, as a program printed them, and that they are what the program's functions are compiled to.
   No condition: plain facts. -/
import Derived.KernelRfl
import Derived.Test.YtmdnkninbkcmkaaDoorZUPm5
import Derived.Test.YtmdnkninbkcmkaaDoorProg
import Derived.Test.YtmdnkninbkcmkaaDoorZUPmLoads3
import Derived.Test.YtmdnkninbkcmkaaDoorZUPmFlow1
namespace Pm
set_option linter.unusedSimpArgs false
set_option linter.unusedVariables false
open Go Am
set_option maxRecDepth 100000
def qNn:AFn :=
⟨(O [⟨some 1,none,.e (.box 7 7 (.tmp 0)),[]⟩,⟨some 2,none,.e (.new [(.int .i64 0),(.int .i64 0),(.int .i64 0),(.slice none 0 0),(.int .i64 0),(.int .i64 0),(.slice none 0 0)] 7),[]⟩]
 (O [LA 5 7 1,⟨some 3,none,.e (.new [(.int .i64 0),(.int .i64 0),(.int .i64 0),(.slice none 0 0),(.int .i64 0),(.int .i64 0),(.slice none 0 0)] 7),[]⟩,⟨none,none,.e (.store 7 (.tmp 3) (.tmp 5)),[]⟩]
 (O [FA 6 6 3,⟨none,none,.e (.store 1 (.tmp 6) (.const (.slice none 0 0))),[]⟩]
 (.seq (O [N 4 0]
 (.block 0 (.loop (.seq (O [V 7 4,FA 8 6 1,L 9 8,Ln 10 9,B 11 .lss 7 10]
 (.cond (.tmp 11)
 .skip
 (.exit 0)))
 (.seq (.block 1 (.ops [FA 14 6 3,L 15 14,FA 16 6 1,L 17 16,V 18 4,X 19 1 17 18,L 20 19,⟨some 21,none,.st (.call 14 [(.tmp 20)]),[.load (.tmp 14)]⟩,F 22 0 21,⟨some 23,none,.st (.e (.lit [(.slice none 0 0)] 1 1 [(0,1,(.tmp 22))])),[.load (.tmp 14)]⟩,Ap 24 1 15 23,FA 25 6 3,S 25 24]))
 (.ops [V 12 4,Bn 13 .add 12 1,V 4 13]))))))
 (O [LA 26 7 3,⟨none,none,.e (.store 7 (.tmp 2) (.tmp 26)),[]⟩]
 .ret))))),[.cells 2 7],27⟩
theorem c_changed17_is:qCx Proofs.Tryd.prog Proofs.Tryd.f6=some (qCb qNn):=by kernel_rfl
theorem call_changed17:qDd 6 qNn 27:=fun hl k=>qBk (by kernel_rfl) (by kernel_rfl) c_changed17_is (by kernel_rfl) hl k
def qLx:AFn :=
⟨(O [T 4 false]
 (O [V 11 0,⟨some 12,none,.call 5 [(.tmp 11)],[]⟩,⟨some 5,none,.e (.new [(.int .i64 0),(.int .i64 0),(.int .i64 0),(.slice none 0 0),(.int .i64 0),(.int .i64 0),(.slice none 0 0)] 7),[]⟩,⟨none,none,.e (.store 7 (.tmp 5) (.tmp 12)),[]⟩]
 (O [LA 13 7 5,⟨some 14,none,.call 6 [(.tmp 13)],[]⟩,⟨some 6,none,.e (.new [(.int .i64 0),(.int .i64 0),(.int .i64 0),(.slice none 0 0),(.int .i64 0),(.int .i64 0),(.slice none 0 0)] 7),[]⟩,⟨none,none,.e (.store 7 (.tmp 6) (.tmp 14)),[]⟩]
 (O [LA 16 7 5,V 17 1,⟨some 18,none,.st (.call 9 [(.tmp 17)]),[.loadA 7 (.tmp 5)]⟩,Z 1 18,⟨some 19,none,.call 8 [(.tmp 16),(.tmp 18)],[]⟩,V 15 19,⟨some 20,none,.q (.ext (.tmp 15) 0),[]⟩,⟨some 21,none,.q (.ext (.tmp 15) 1),[]⟩,⟨some 7,none,.e (.new [(.slice none 0 0),(.int .u8 0),(.slice none 0 0),(.slice none 0 0)] 4),[]⟩,⟨none,none,.e (.store 4 (.tmp 7) (.tmp 20)),[]⟩,V 8 21]
 (O [LA 23 7 6,V 24 1,⟨some 25,none,.st (.call 9 [(.tmp 24)]),[.loadA 7 (.tmp 6)]⟩,Z 1 25,⟨some 26,none,.call 8 [(.tmp 23),(.tmp 25)],[]⟩,V 22 26,⟨some 27,none,.q (.ext (.tmp 22) 0),[]⟩,⟨some 28,none,.q (.ext (.tmp 22) 1),[]⟩,⟨some 9,none,.e (.new [(.slice none 0 0),(.int .u8 0),(.slice none 0 0),(.slice none 0 0)] 4),[]⟩,⟨none,none,.e (.store 4 (.tmp 9) (.tmp 27)),[]⟩,V 10 28]
 (O [⟨some 29,none,.call 10 [],[]⟩,V 30 29,Gd 30 true (LA 31 7 6),⟨some 32,some (30,true),.call 7 [(.tmp 31)],[]⟩,Gd 30 true (Bn 33 .eql 32 0),Pk 34 30 33 false,V 35 34,Gd 35 true (LA 36 7 6),Gd 35 true (FA 37 3 9),Gd 35 true (L 38 37),⟨some 39,some (35,true),.call 11 [(.tmp 36),(.tmp 38)],[]⟩,Gd 35 true (Nt 40 39),Gd 35 true (V 41 40),Gd 41 false (LA 42 7 5),Gd 41 false (FA 43 3 7),Gd 41 false (L 44 43),⟨some 45,some (41,false),.call 11 [(.tmp 42),(.tmp 44)],[]⟩,⟨some 46,some (35,true),.q (.pick (.tmp 41) (.const (.bool true)) (.tmp 45)),[]⟩,Pk 47 35 46 false,V 4 47]
 .ret)))))),[.tmp 4],48⟩
theorem c_LoadsRaces_is:qCx Proofs.Tryd.prog Proofs.Tryd.f4=some (qCb qLx):=by kernel_rfl
theorem call_LoadsRaces:qDd 4 qLx 48:=fun hl k=>qBk (by kernel_rfl) (by kernel_rfl) c_LoadsRaces_is (by kernel_rfl) hl k
end Pm

/- Loads of what is known: of straight code.
   No condition: plain lemmas. -/

namespace Pm
set_option linter.unusedSimpArgs false
set_option linter.unusedVariables false
open Go Am
open Go.Proofs.Tryd (prog)

theorem loads_come {code:List Ins} (hs:Strt code):∀ i,i < code.length→Come (succs code) i
  | 0,h=>.start (by rw [qCu]; exact h)
  | i+1,h=>by
    have hi:i < code.length:=by omega
    refine .step (loads_come hs i hi) (l:=qDu i code[i]) (by rw [qMd,List.getElem?_eq_getElem hi]; rfl) ?_ (by rw [qCu]; exact h)
    rw [nextsOf_plain (hs _ (List.getElem_mem hi))];exact List.mem_singleton.2 rfl
def qXi (c:Ins) (x:Nat):Nat:=andN x (qIl c) ||| addN c
def kn (code:List Ins):Nat→Nat
  | 0=>0
  | i+1=>match code[i]? with | some c=>qXi c (kn code i) | none=>0
theorem kn_lt (code:List Ins):∀ i,kn code i < big
  | 0=>by show 0 < big; decide
  | i+1=>by
    unfold kn
    split
    . exact qVt (qUr (kn_lt code i)) (addN_lt _)
    . decide
theorem loads_straight {code:List Ins} (hs:Strt code) {k out:List Nat} (h:Solved (qHm code) k out) {i:Nat} (hi:i < code.length):gN k i=kn code i:=by
  have hn:(qHm code).n=code.length:=qCu code;refine ext_bits (h.ilt i) (kn_lt code i) fun r hr=>?_
  have ha:=h.ahead i r (by rw [hn]; exact hi) hr
  have hmk:(qHm code).marked (gN k i) r=!(gN k i).testBit r:=by
    unfold Prob.marked;show ((gN k i).testBit r != true)=_;cases (gN k i).testBit r<;>rfl
  rw [hmk] at ha;have nx:∀ j,j < code.length→qEj (succs code) j=[((j+1:Nat):Int)]:=fun j hj=>by
    rw [nexts_succs (List.getElem?_eq_getElem hj),nextsOf_plain (hs _ (List.getElem_mem hj))]
  have fr:∀ (a b:Nat),a < code.length→b < code.length→((a:Int)∈qEj (qHm code).froms b↔b=a+1):=fun a b ha hb=>by
    rw [qWb (p:=qHm code) (by rw [hn]; exact ha) (by rw [hn]; exact hb)]
    show (b:Int)∈qEj (qFa (succs code)) a↔_;rw [qIs,nx a ha,qCu];constructor
    . rintro ⟨j,h1,h2,h3⟩
      have:=List.mem_singleton.1 h3;omega
    . intro e
      exact ⟨b,rfl,hb,by rw [e]; exact List.mem_singleton.2 rfl⟩
  have gen_pass:∀ j c,code[j]?=some c→gN (qHm code).gen j=addN c∧gN (qHm code).kill j=qIl c:=fun j c hc=>by
    constructor
    . show gN (code.map addN) j=_; rw [qVd,hc]
    . show gN (code.map qIl) j=_; rw [qVd,hc]
  have key:∀ j,j < code.length→(Mk (qHm code) r false j↔(kn code j).testBit r=false):=by
    intro j
    induction j with
    | zero =>
      intro hj;constructor
      . intro _; simp [kn]
      . intro _
        exact .start (by rw [hn]; exact hj) (by show (if false then _ else decide (0=0))=true; rfl) (by show ((0:Nat).testBit r != true)=true; simp)
    | succ j ih =>
      intro hj;have hj':j < code.length:=by omega
      have hc:code[j]?=some code[j]:=List.getElem?_eq_getElem hj';obtain ⟨g1,g2⟩:=gen_pass j _ hc;have hkn:kn code (j+1)=qXi code[j] (kn code j):=by
        show (match code[j]? with | some c=>qXi c (kn code j) | none=>0)=_
        rw [hc]
      have htrue:Mk (qHm code) r true j↔(qXi code[j] (kn code j)).testBit r=false:=by
        have e:(qXi code[j] (kn code j)).testBit r=((kn code j).testBit r && !(qIl code[j]).testBit r || (addN code[j]).testBit r):=by
          unfold qXi; rw [Nat.testBit_or,qUs]
        rw [e];constructor
        . intro hm
          cases hm with
          | gen _ hg =>
            unfold Prob.genM at hg;rw [g1,g2] at hg;have hg':(!(addN code[j]).testBit r && (qIl code[j]).testBit r)=true:=hg;simp only [Bool.and_eq_true,Bool.not_eq_true'] at hg';rw [hg'.1,hg'.2]; simp
          | pass hp hq =>
            unfold Prob.passM at hq;rw [g1,g2] at hq;have hq':(!(addN code[j]).testBit r)=true:=hq;rw [(ih hj').1 hp];simp only [Bool.not_eq_true'] at hq';rw [hq']; rfl
        . intro hm
          simp only [Bool.or_eq_false_iff,Bool.and_eq_false_iff,Bool.not_eq_false'] at hm;obtain ⟨hm1,hm2⟩:=hm;rcases hm1 with hm1 | hm1
          . refine .pass ((ih hj').2 hm1) ?_
            unfold Prob.passM;rw [g1,g2];show (!(addN code[j]).testBit r)=true;rw [hm2]; rfl
          . refine .gen (by rw [hn]; exact hj') ?_
            unfold Prob.genM;rw [g1,g2];show (!(addN code[j]).testBit r && (qIl code[j]).testBit r)=true;rw [hm2,hm1]; rfl
      rw [hkn,← htrue];constructor
      . intro hm
        cases hm with
        | start _ he _ =>
          have:(if false then _ else decide (j+1=0))=true:=he
          simp at this
        | @flow _ a _ hf hm =>
          have hal:a < code.length:=by have:=hm.lt; rwa [hn] at this
          have:=(fr a (j+1) hal hj).1 hf;obtain rfl:a=j:=by omega
          exact hm
      . intro hm
        exact .flow (by rw [hn]; exact hj) ((fr j (j+1) hj' hj).2 rfl) hm
  have:=ha.trans (key i hi);cases h1:(gN k i).testBit r<;>cases h2:(kn code i).testBit r<;>rw [h1,h2] at this<;>simp at this ⊢
theorem qJl.straight {code out:List Ins} {fm:List Int} (h:qJl code out fm) (hs:Strt code) (hl:code.length≤60):out.length=code.length∧fm=ownL code.length∧∀ i c,code[i]?=some c→out[i]?=some (qPy c (kn code i)):=by
  unfold qJl at h;rw [if_neg (by omega)] at h
  obtain ⟨⟨k,hk,hL⟩,hf⟩:=h;unfold qMa at hk;rw [if_neg (by omega)] at hk
  obtain ⟨o,hS⟩:=hk;refine ⟨hL.len,hf,fun i c hc=>?_⟩
  have hi:=(List.getElem?_eq_some_iff.1 hc).1;rw [hL.come i c hc (loads_come hs i hi),loads_straight hs hS hi]
end Pm

/- Loads of what is known: the chapter's example, and two laws, walked.
   No condition: plain lemmas. -/

namespace Pm
set_option linter.unusedSimpArgs false
set_option linter.unusedVariables false
open Go Am
open Go.Proofs.Tryd (prog)

def outD (code:List Ins):List Ins:=(List.range code.length).map fun i=>qPy (code[i]?.getD nopI) (kn code i)
theorem qJl.eq {code out:List Ins} {fm:List Int} (h:qJl code out fm) (hs:Strt code) (hl:code.length≤60):out=outD code∧fm=ownL code.length:=by
  obtain ⟨h1,h2,h3⟩:=h.straight hs hl;refine ⟨List.ext_getElem? fun i=>?_,h2⟩
  by_cases hi:i < code.length
  . have hc:code[i]?=some code[i]:=List.getElem?_eq_getElem hi
    rw [h3 i _ hc];simp [outD,hi]
  . rw [List.getElem?_eq_none (by omega),List.getElem?_eq_none (by simp [outD]; omega)]
def c17a:List Ins:=[⟨7,0,1,0⟩,⟨7,2,1,0⟩]
def c17b:List Ins:=[⟨7,0,1,0⟩,⟨13,0,0,0⟩,⟨7,2,1,0⟩]
def c17c:List Ins:=[⟨7,0,1,0⟩,⟨0,0,0,0⟩]
theorem strt17a:Strt c17a:=by unfold Strt c17a; decide
theorem strt17b:Strt c17b:=by unfold Strt c17b; decide
theorem strt17c:Strt c17c:=by unfold Strt c17c; decide
theorem known17c {b:List Nat} (h:qMa c17c b):b=[0,16]:=by
  have hl:=(h.len (by decide)).1
  unfold qMa at h;rw [if_neg (by decide)] at h
  obtain ⟨o,h⟩:=h;refine qWy (by rw [hl]; rfl) fun i hi=>?_
  rw [hl] at hi;rw [loads_straight strt17c h hi];have hi2:i=0∨i=1:=by change i < 2 at hi; omega
  rcases hi2 with rfl | rfl<;>decide +kernel
section
variable {h : Heap} {K : Value → Heap → Prop}
set_option maxHeartbeats 4000000 in
theorem known17_call (hk:K (vB true) h):qBn prog 10 [] h K:=by
  refine Pure.go (Pure.one (p:=vB true) rfl fun h=>?_) hk
  refine call_known17 (by simp) ?_
  have hfa:frzV (h++[bx [.int .u8 7,.int .i64 0,.int .i64 1,.int .i64 0,.int .u8 7,.int .i64 2,.int .i64 1,.int .i64 0] 4]) 4 (.slice (some ⟨h.length,0,none⟩) 2 0)=some (vM 4 vIns c17a,h++[.row ⟨c17a.flatMap vIns,4,0,false⟩]):=frzV_new (h:=h) rfl rfl rfl;have hfb:∀ a b:Ob,frzV (h++[a,b,bx [.int .u8 7,.int .i64 0,.int .i64 1,.int .i64 0,.int .u8 13,.int .i64 0,.int .i64 0,.int .i64 0,.int .u8 7,.int .i64 2,.int .i64 1,.int .i64 0] 4]) 4 (.slice (some ⟨h.length+2,0,none⟩) 3 0)=some (vM 4 vIns c17b,h++[a,b,.row ⟨c17b.flatMap vIns,4,0,false⟩]):=fun a b=>qWx (h:=h) (rs:=[a,b,bx [.int .u8 7,.int .i64 0,.int .i64 1,.int .i64 0,.int .u8 13,.int .i64 0,.int .i64 0,.int .i64 0,.int .u8 7,.int .i64 2,.int .i64 1,.int .i64 0] 4]) (j:=2) (e:=4) (n:=3) (ver:=0) (off:=0) rfl (by decide) rfl
  have hfc:∀ a b c d:Ob,frzV (h++[a,b,c,d,bx [.int .u8 7,.int .i64 0,.int .i64 1,.int .i64 0,.int .u8 0,.int .i64 0,.int .i64 0,.int .i64 0] 4]) 4 (.slice (some ⟨h.length+4,0,none⟩) 2 0)=some (vM 4 vIns c17c,h++[a,b,c,d,.row ⟨c17c.flatMap vIns,4,0,false⟩]):=fun a b c d=>qWx (h:=h) (rs:=[a,b,c,d,bx [.int .u8 7,.int .i64 0,.int .i64 1,.int .i64 0,.int .u8 0,.int .i64 0,.int .i64 0,.int .i64 0] 4]) (j:=4) (e:=4) (n:=2) (ver:=0) (off:=0) rfl (by decide) rfl
  simp [qAl,qAo,qAm,qAi,qAf,qAe,qAb,qAc,qAa,qAj,qAg,qAd,qAu,qAv,resV,retV,qAn,qAh,qAs,qAr,qAq,qAp,qRq,hfa];refine qPh (code:=c17a) (by decide) (by decide) fun oa fa ha=>?_
  obtain ⟨rfl,rfl⟩:=ha.eq strt17a (by decide)
  simp [qAl,qAo,qAm,qAi,qAf,qAe,qAb,qAc,qAa,qAj,qAg,qAd,qAu,qAv,resV,retV,qAn,qAh,qAs,qAr,qAq,qAp,callK_def,qYv,hfb,hfc];refine qPh (code:=c17b) (by decide) (by decide) fun oa fa ha=>?_
  obtain ⟨rfl,rfl⟩:=ha.eq strt17b (by decide)
  simp [qAl,qAo,qAm,qAi,qAf,qAe,qAb,qAc,qAa,qAj,qAg,qAd,qAu,qAv,resV,retV,qAn,qAh,qAs,qAr,qAq,qAp,callK_def,qYv,hfb,hfc];refine qNi (code:=c17c) (by decide) (by decide) fun b hb=>?_
  obtain rfl:=known17c hb;have ea:outD c17a=[⟨7,0,1,0⟩,⟨2,2,0,0⟩]:=by decide +kernel
  have eb:outD c17b=[⟨7,0,1,0⟩,⟨13,0,0,0⟩,⟨7,2,1,0⟩]:=by decide +kernel
  simp [qAl,qAo,qAm,qAi,qAf,qAe,qAb,qAc,qAa,qAj,qAg,qAd,qAu,qAv,resV,retV,qAn,qAh,qAs,qAr,qAq,qAp,callK_def,ea,eb,vIns]
end
end Pm
