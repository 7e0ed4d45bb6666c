/- slices.Insert of one element into a row of one's own, not at its end: what the model's run does (in place where there is room, in a new row where there is none).
   No condition: plain lemmas. -/

import Derived.WalkKit
import Derived.Lib.Overlaps
import Derived.Lib.AppendZerosOnto
import Derived.Laws.IdiomCopy
import Derived.Shelf.RegionOpenPlain
import Derived.Lib.SliceRun
import Derived.Lib.JoinLaws
import Derived.Lib.AppendZeros
import Derived.Laws.Externs
import Derived.Lib.Walk
import Derived.Test.YtdiggaadgjkgkaaGreatDoorProg
import Derived.Test.YtdiggaadgjkgkaaGreatDoorZNAmEffect
import Derived.Test.YtdiggaadgjkgkaaGreatDoorZNAmCode
import Derived.Test.YtdiggaadgjkgkaaGreatDoorZNPmEdit
namespace Am
set_option linter.unusedSimpArgs false
set_option linter.unusedVariables false
open Go Go.RowKit Go.Lib
open Go.Proofs.Tryz (prog)

section
variable {P : Program}
theorem qCz (w:World) (dT sT ty elem:TypeId) (k b o dLen dCap:Nat) (a:Addr) (sLen sCap N:Nat) (cs:List Value)
    (hu:P.underlying dT=some (.slice elem)) (hs:(P.info? elem).map (·.size)=some k) (hN:N=Nat.min sLen dLen) (hl:cs.length=N * k)
    (hsrc:∀ j v,cs[j]?=some v→w.cell? (a.add j)=some v) (hc:∀ j,j < cs.length→(w.cell? ⟨b,o+j,none⟩).isSome=true) (hf:∀ j,j < cs.length→w.frozen? ⟨b,o+j,none⟩=false) (h1:∀ v∈cs,v.oneCell'=true) :
    (Builtin.copy_ #[dT,sT] ty #[.slice (some ⟨b,o,none⟩) dLen dCap,.slice (some a) sLen sCap]).run P w=.ok (goInt N) (w.setCells b o cs):=by
  have hfc:=run_firstCells_some (P:=P) w k N a sLen sCap cs hl hsrc;have hst:=run_storeCells_cells (P:=P) b o cs 0 w (by simpa using hc) (by simpa using hf) h1
  cases hq:P.info? elem with
  | none=>simp [hq] at hs
  | some i =>
    have hi:i.size=k:=by simpa [hq] using hs
    have hz:(Go.sizeOf elem).run P w=.ok k w:=by simp [Go.sizeOf,typeInfo,hq,hi]
    simp only [Builtin.copy_,Sem.run_bind,List.getElem?_toArray,List.getElem?_cons_zero,List.getElem?_cons_succ,run_underlying hu,Result.andThen_ok,Builtin.lenOf,Sem.run_pure,hz,← hN,hfc];simp [hst,goInt]
theorem wp_copy_runI (w:World) {o:Oper} {a:Act} {K:Act→World→Prop} {Q:Exit→Act→World→Prop} (d s:Operand) (t t':TypeId)
    (ho:o.op=.call { callee:=.builtin .copy,args:=#[d,s],argTypes:=#[t,t'] }) (v u:Value) (hd:a.eval d=v) (hs:a.eval s=u) {v':Value} {w':World}
    (hr:(Builtin.copy_ #[t,t'] o.type #[v,u]).run P w=.ok v' w') (h:K (a.put o.dst v') w'):o.wp P a w K Q:=by
  unfold Oper.wp execOp;simp only [ho,resolve,invoke,builtin,Sem.run_bind,Sem.run_pure,Result.andThen_ok,List.map_toArray,List.map_cons,List.map_nil,hd,hs,hr];exact h
theorem qDf (w:World) {ops:Array Oper} {rest:List Oper} {o:Oper} {a:Act} {Q:Exit→Act→World→Prop} (hgd:o.guard=none) (d s:Operand) (t t':TypeId)
    (ho:o.op=.call { callee:=.builtin .copy,args:=#[d,s],argTypes:=#[t,t'] }) (v u:Value) (hd:a.eval d=v) (hs:a.eval s=u) {v':Value} {w':World}
    (hr:(Builtin.copy_ #[t,t'] o.type #[v,u]).run P w=.ok v' w') (h:wpList P ops Q rest (a.put o.dst v') w'):wpList P ops Q (o :: rest) a w :=
  wpList_plain hgd fun _ hK=>wp_copy_runI w d s t t' ho v u hd hs hr (hK _ _ h)
theorem qFc {ops:Array Oper} {o:Oper} {a:Act} {w:World} {K:Act→World→Prop} {Q:Exit→Act→World→Prop} {E:Prop}
    (hg:o.guard=none) (d x:Operand) (dT sT:TypeId) (hop:o.op=Op.call { callee:=Callee.builtin Builtin.copy,args:=#[d,x],argTypes:=#[dT,sT] })
    (v u:Value) (hd:a.eval d=v) (hx:a.eval x=u) {v':Value} {w':World} (hr:(Builtin.copy_ #[dT,sT] o.type #[v,u]).run P w=.ok v' w') (hK:K (a.put o.dst v') w') :
    if Region.wanted o (yielded ops a.tmps)=true then Oper.wp P o a w K Q else E:=by
  have hw:Region.wanted o (yielded ops a.tmps)=true:=by simp [Region.wanted,hg]
  rw [if_pos hw];unfold Oper.wp;simp [execOp,hop,resolve,invoke,builtin,hd,hx,hr,Result.andThen];exact hK
theorem qEf (b:Nat) (vs:List Value) (o:Nat) (w:World) (h:∀ j,j < vs.length→(w.cell? ⟨b,o+j,none⟩).isSome=true) (k:Nat) (hk:(w.cell? ⟨b,k,none⟩).isSome=true):((w.setCells b o vs).cell? ⟨b,k,none⟩).isSome=true:=by
  by_cases hin:o≤k∧k < o+vs.length
  . have:=World.cell?_setCells_in b vs o w h (k - o) (by omega)
    rw [show o+(k - o)=k by omega] at this
    rw [this]; rfl
  . rw [World.cell?_setCells_out b vs o w ⟨b,k,none⟩ (fun _ _=>by show k < o∨o+vs.length≤k; omega)]
    exact hk
end

set_option maxHeartbeats 4000000 in
set_option maxRecDepth 100000 in
theorem insInt_shift (b off n c i vb voff vc:Nat) (cs vs:List Value) (w:World) (hi:i < n) (hroom:n+1≤c) (hc63:c≤9223372036854775807) (hvb:vb≠b)
    (hcl:cs.length=n * 1) (hvl:vs.length=1)
    (hcs:∀ j v,cs[j]?=some v→w.cell? ⟨b,off+j,none⟩=some v) (hsp:∀ j,j < (n+1) * 1→(w.cell? ⟨b,off+j,none⟩).isSome=true) (hfz:∀ j,j < (n+1) * 1→w.frozen? ⟨b,off+j,none⟩=false)
    (hvs:∀ j v,vs[j]?=some v→w.cell? ⟨vb,voff+j,none⟩=some v) (h1c:∀ v∈cs,v.oneCell'=true) (h1v:∀ v∈vs,v.oneCell'=true)
    (tA tB:TypeId) (kA kB:Nat) (hsa:w.shape? vb=some (tA,kA)) (hsb:w.shape? b=some (tB,kB)) (hkB:kB≠0) (hfa:w.frozen? ⟨vb,voff,none⟩=false) (hfe:w.frozen? ⟨vb,kA,none⟩=false) :
    Calls prog 57 #[.slice (some ⟨b,off,none⟩) n c,.int .i64 i,.slice (some ⟨vb,voff,none⟩) 1 vc] w fun e w' =>
      e=.returned (.slice (some ⟨b,off,none⟩) (n+1) c)∧w'=(w.drew.setCells b (off+(i+1)) (cs.drop (i))).setCells b (off+i) vs:=by
  have tS:prog.underlying 26=some (.slice 3):=by kernel_rfl
  have mixed:prog.follows .mixedOrders=true:=by kernel_rfl
  have uS:=run_underlying tS;have tI:prog.underlying 3=some (.int .i64):=by kernel_rfl
  have uI:=run_underlying tI;have hz2:¬ ((i:Int)=(n:Int)):=by omega
  have hsz:(prog.info? 3).map (·.size)=some 1:=by kernel_rfl
  have hov:∀ lb cb,(callFunc 98 #[.slice (some ⟨vb,voff,none⟩) 1 vc,.slice (some ⟨b,off+(i+1),none⟩) lb cb]).run prog w=.ok (.value (.bool false)) w:=fun lb cb=>by
    rw [run_callFunc_extern Proofs.Tryz.func98 (by kernel_rfl) (by kernel_rfl) (by kernel_rfl) (e:=Extern.SlicesOverlaps.overlaps #[26,26] #[4]) (by kernel_rfl),
      Lib.run_overlaps_apart w 26 4 3 tS 1 (fun w=>by rfl) ⟨vb,voff,none⟩ ⟨b,off+(i+1),none⟩ 1 vc lb cb hvb tA tB kA kB hsa hsb hkB hfa hfe]
    rfl
  have hdl:(cs.drop (i)).length=(n - i) * 1:=by rw [List.length_drop,hcl]; omega
  have hw1:IntKind.i64.wrap ((i:Int)+1)=(i:Int)+1:=by rw [IntKind.wrap_i64]; omega
  have hb1:(0:Int)≤(i:Int)+1:=by omega
  have hin:i≤n:=by omega
  have htn:((i:Int)+1).toNat=i+1:=by omega
  have hb2:¬ (c=i+1):=by omega
  have hb3:(i:Int)≤(n:Int)+1:=by omega
  have hb4:¬ (c=i):=by omega
  have hcp1:∀ ty dc sc,(Builtin.copy_ #[26,26] ty #[.slice (some ⟨b,off+(i+1),none⟩) (n - i) dc,.slice (some ⟨b,off+i,none⟩) (n+1 - i) sc]).run prog w.drew=.ok (goInt (n - i:Nat)) (w.drew.setCells b (off+(i+1)) (cs.drop (i))):=fun ty dc sc =>
    qCz w.drew _ _ ty 3 1 b (off+(i+1)) (n - i) dc ⟨b,off+i,none⟩ (n+1 - i) sc (n - i) (cs.drop (i)) tS hsz (by simp only [Nat.min_def]; split<;>omega) hdl
      (fun j v hj=>by rw [Addr.add_lit,Nat.add_assoc]; exact hcs (i+j) v (by rwa [List.getElem?_drop] at hj))
      (fun j hj=>by rw [Nat.add_assoc]; exact hsp _ (by omega)) (fun j hj=>by rw [Nat.add_assoc]; exact hfz _ (by omega)) (fun v hv=>h1c v (List.mem_of_mem_drop hv))
  obtain ⟨W1,hW1⟩:∃ W1,W1=w.drew.setCells b (off+(i+1)) (cs.drop (i)):=⟨_,rfl⟩;have hsp1:∀ q,q < (n+1) * 1→(W1.cell? ⟨b,off+q,none⟩).isSome=true:=fun q hq=>by
    rw [hW1];exact qEf b _ _ _ (fun j hj=>by rw [Nat.add_assoc]; exact hsp _ (by omega)) _ (hsp q hq)
  have hcp2:∀ (W:World),(∀ x,W.cell? x=W1.cell? x)→(∀ x,W.frozen? x=W1.frozen? x)→∀ ty dc,(Builtin.copy_ #[26,26] ty #[.slice (some ⟨b,off+i,none⟩) (n+1 - i) dc,.slice (some ⟨vb,voff,none⟩) 1 vc]).run prog W=.ok (goInt (1:Nat)) (W.setCells b (off+i) vs):=fun W hWc hWf ty dc =>
    qCz W _ _ ty 3 1 b (off+i) (n+1 - i) dc ⟨vb,voff,none⟩ 1 vc 1 vs tS hsz (by simp only [Nat.min_def]; split<;>omega) (by rw [hvl])
      (fun j v hj=>by
        rw [Addr.add_lit,hWc,hW1,World.cell?_setCells_out b _ _ _ _ (fun h _=>absurd h hvb)]
        exact hvs j v hj)
      (fun j hj=>by rw [hWc,Nat.add_assoc]; exact hsp1 _ (by omega)) (fun j hj=>by rw [hWf,hW1,World.frozen?_setCells,Nat.add_assoc]; exact hfz _ (by omega)) h1v
  rw [← hW1] at hcp1
  go_enter Proofs.Tryz.func57,Proofs.Tryz.ntmps57
  go_wp2_with (simp only [hov])
  go_region_law_o (refine qFc rfl _ _ 26 26 rfl _ _ (by simp [Act.eval,Act.put]) (by simp [Act.eval,Act.put]) (hcp1 _ _ _) ?_)
  go_wp2_with (at_builtin; refine qDf _ rfl _ _ 26 26 rfl _ _ rfl rfl (hcp2 _ (fun _=>rfl) (fun _=>rfl) _ _) ?_)
  go_ret
  first | exact ⟨rfl,rfl⟩ | exact ⟨rfl,by rw [hW1]⟩

set_option maxHeartbeats 4000000 in
set_option maxRecDepth 100000 in
theorem insIns_shift (b off n c i vb voff vc:Nat) (cs vs:List Value) (w:World) (hi:i < n) (hroom:n+1≤c) (hc63:c≤9223372036854775807) (hvb:vb≠b)
    (hcl:cs.length=n * 4) (hvl:vs.length=4)
    (hcs:∀ j v,cs[j]?=some v→w.cell? ⟨b,off+j,none⟩=some v) (hsp:∀ j,j < (n+1) * 4→(w.cell? ⟨b,off+j,none⟩).isSome=true) (hfz:∀ j,j < (n+1) * 4→w.frozen? ⟨b,off+j,none⟩=false)
    (hvs:∀ j v,vs[j]?=some v→w.cell? ⟨vb,voff+j,none⟩=some v) (h1c:∀ v∈cs,v.oneCell'=true) (h1v:∀ v∈vs,v.oneCell'=true)
    (tA tB:TypeId) (kA kB:Nat) (hsa:w.shape? vb=some (tA,kA)) (hsb:w.shape? b=some (tB,kB)) (hkB:kB≠0) (hfa:w.frozen? ⟨vb,voff,none⟩=false) (hfe:w.frozen? ⟨vb,kA,none⟩=false) :
    Calls prog 56 #[.slice (some ⟨b,off,none⟩) n c,.int .i64 i,.slice (some ⟨vb,voff,none⟩) 1 vc] w fun e w' =>
      e=.returned (.slice (some ⟨b,off,none⟩) (n+1) c)∧w'=(w.drew.setCells b (off+(i+1) * 4) (cs.drop (i * 4))).setCells b (off+i * 4) vs:=by
  have tS:prog.underlying 22=some (.slice 47):=by kernel_rfl
  have mixed:prog.follows .mixedOrders=true:=by kernel_rfl
  have uS:=run_underlying tS;have tI:prog.underlying 3=some (.int .i64):=by kernel_rfl
  have uI:=run_underlying tI;have hz2:¬ ((i:Int)=(n:Int)):=by omega
  have hsz:(prog.info? 47).map (·.size)=some 4:=by kernel_rfl
  have hov:∀ lb cb,(callFunc 96 #[.slice (some ⟨vb,voff,none⟩) 1 vc,.slice (some ⟨b,off+(i+1) * 4,none⟩) lb cb]).run prog w=.ok (.value (.bool false)) w:=fun lb cb=>by
    rw [run_callFunc_extern Proofs.Tryz.func96 (by kernel_rfl) (by kernel_rfl) (by kernel_rfl) (e:=Extern.SlicesOverlaps.overlaps #[22,22] #[4]) (by kernel_rfl),
      Lib.run_overlaps_apart w 22 4 47 tS 4 (fun w=>by rfl) ⟨vb,voff,none⟩ ⟨b,off+(i+1) * 4,none⟩ 1 vc lb cb hvb tA tB kA kB hsa hsb hkB hfa hfe]
    rfl
  have hdl:(cs.drop (i * 4)).length=(n - i) * 4:=by rw [List.length_drop,hcl]; omega
  have hw1:IntKind.i64.wrap ((i:Int)+1)=(i:Int)+1:=by rw [IntKind.wrap_i64]; omega
  have hb1:(0:Int)≤(i:Int)+1:=by omega
  have hin:i≤n:=by omega
  have htn:((i:Int)+1).toNat=i+1:=by omega
  have hb2:¬ (c=i+1):=by omega
  have hb3:(i:Int)≤(n:Int)+1:=by omega
  have hb4:¬ (c=i):=by omega
  have hcp1:∀ ty dc sc,(Builtin.copy_ #[22,22] ty #[.slice (some ⟨b,off+(i+1) * 4,none⟩) (n - i) dc,.slice (some ⟨b,off+i * 4,none⟩) (n+1 - i) sc]).run prog w.drew=.ok (goInt (n - i:Nat)) (w.drew.setCells b (off+(i+1) * 4) (cs.drop (i * 4))):=fun ty dc sc =>
    qCz w.drew _ _ ty 47 4 b (off+(i+1) * 4) (n - i) dc ⟨b,off+i * 4,none⟩ (n+1 - i) sc (n - i) (cs.drop (i * 4)) tS hsz (by simp only [Nat.min_def]; split<;>omega) hdl
      (fun j v hj=>by rw [Addr.add_lit,Nat.add_assoc]; exact hcs (i * 4+j) v (by rwa [List.getElem?_drop] at hj))
      (fun j hj=>by rw [Nat.add_assoc]; exact hsp _ (by omega)) (fun j hj=>by rw [Nat.add_assoc]; exact hfz _ (by omega)) (fun v hv=>h1c v (List.mem_of_mem_drop hv))
  obtain ⟨W1,hW1⟩:∃ W1,W1=w.drew.setCells b (off+(i+1) * 4) (cs.drop (i * 4)):=⟨_,rfl⟩;have hsp1:∀ q,q < (n+1) * 4→(W1.cell? ⟨b,off+q,none⟩).isSome=true:=fun q hq=>by
    rw [hW1];exact qEf b _ _ _ (fun j hj=>by rw [Nat.add_assoc]; exact hsp _ (by omega)) _ (hsp q hq)
  have hcp2:∀ (W:World),(∀ x,W.cell? x=W1.cell? x)→(∀ x,W.frozen? x=W1.frozen? x)→∀ ty dc,(Builtin.copy_ #[22,22] ty #[.slice (some ⟨b,off+i * 4,none⟩) (n+1 - i) dc,.slice (some ⟨vb,voff,none⟩) 1 vc]).run prog W=.ok (goInt (1:Nat)) (W.setCells b (off+i * 4) vs):=fun W hWc hWf ty dc =>
    qCz W _ _ ty 47 4 b (off+i * 4) (n+1 - i) dc ⟨vb,voff,none⟩ 1 vc 1 vs tS hsz (by simp only [Nat.min_def]; split<;>omega) (by rw [hvl])
      (fun j v hj=>by
        rw [Addr.add_lit,hWc,hW1,World.cell?_setCells_out b _ _ _ _ (fun h _=>absurd h hvb)]
        exact hvs j v hj)
      (fun j hj=>by rw [hWc,Nat.add_assoc]; exact hsp1 _ (by omega)) (fun j hj=>by rw [hWf,hW1,World.frozen?_setCells,Nat.add_assoc]; exact hfz _ (by omega)) h1v
  rw [← hW1] at hcp1
  go_enter Proofs.Tryz.func56,Proofs.Tryz.ntmps56
  go_wp2_with (simp only [hov])
  go_region_law_o (refine qFc rfl _ _ 22 22 rfl _ _ (by simp [Act.eval,Act.put]) (by simp [Act.eval,Act.put]) (hcp1 _ _ _) ?_)
  go_wp2_with (at_builtin; refine qDf _ rfl _ _ 22 22 rfl _ _ rfl rfl (hcp2 _ (fun _=>rfl) (fun _=>rfl) _ _) ?_)
  go_ret
  first | exact ⟨rfl,rfl⟩ | exact ⟨rfl,by rw [hW1]⟩

set_option maxHeartbeats 4000000 in
set_option maxRecDepth 100000 in
theorem insInt_grow (b off n c i vb voff vc:Nat) (cs vs:List Value) (w:World) (hi:i < n) (hnc:n≤c) (hroom:c < n+1) (hbig:(n+1) * 8≤140737488355328)
    (hcl:cs.length=n * 1) (hvl:vs.length=1)
    (hcs:∀ j v,cs[j]?=some v→w.cell? ⟨b,off+j,none⟩=some v)
    (hvs:∀ j v,vs[j]?=some v→w.cell? ⟨vb,voff+j,none⟩=some v) (h1c:∀ v∈cs,v.oneCell'=true) (h1v:∀ v∈vs,v.oneCell'=true) :
    Calls prog 57 #[.slice (some ⟨b,off,none⟩) n c,.int .i64 i,.slice (some ⟨vb,voff,none⟩) 1 vc] w fun e w' =>
      e=.returned (.slice (some ⟨w.heap.size,0,none⟩) (n+1) (grownCap w (n+1) c 3)) ∧
      w'=(((w.alloc (.cells ((cs.take (i)).toArray++Builtin.zeroCells (Value.int .i64 0).cells (n+1 - i)++Builtin.zeroCells (Value.int .i64 0).cells (grownCap w (n+1) c 3 - (n+1))) 3)).drew.setCells w.heap.size (i) vs).drew).setCells w.heap.size ((i+1)) (cs.drop (i)):=by
  have mixed:prog.follows .mixedOrders=true:=by kernel_rfl
  have tS:prog.underlying 26=some (.slice 3):=by kernel_rfl
  have uS:=run_underlying tS;have tI:prog.underlying 3=some (.int .i64):=by kernel_rfl
  have uI:=run_underlying tI;obtain ⟨i0,hi0,hz0,hzs,hzb⟩:=info_parts (P:=prog) (e:=3) (z:=Value.int .i64 0) (size:=1) (bytes:=8) (by kernel_rfl)
  have hz2:¬ ((i:Int)=(n:Int)):=by omega
  have hz3:(c:Int) < (n:Int)+1:=by omega
  have hsz:(prog.info? 3).map (·.size)=some 1:=by rw [hi0]; simp [hzs]
  have hbw:b < w.heap.size:=block_lt_of_cell (hcs 0 _ (List.getElem?_eq_getElem (by omega)))
  have hvw:vb < w.heap.size:=block_lt_of_cell (hvs 0 _ (List.getElem?_eq_getElem (by omega)))
  have hkk:(n:Int)+1 - (i:Int)=((n+1 - i:Nat):Int):=by omega
  have hik:i+(n+1 - i)=n+1:=by omega
  have htl:(cs.take (i)).length=i:=by rw [List.length_take]; omega
  have hold:(Builtin.firstCells i0.size i (.slice (some ⟨b,off,none⟩) i c)).run prog w.drew=.ok (cs.take (i)).toArray w.drew:=by
    rw [hzs];exact run_firstCells_some w.drew 1 i ⟨b,off,none⟩ i c (cs.take (i)) (by rw [htl]; omega) (fun j v hj=>by
      rw [Addr.add_lit];rw [List.getElem?_take] at hj
      split at hj
      . exact hcs j v hj
      . cases hj)
  have hrz:∀ ty,(Builtin.append_ #[26,3] ty #[.slice (some ⟨b,off,none⟩) i c,.int .i64 ((n:Int)+1 - (i:Int))]).run prog w =
      .ok (.slice (some ⟨w.heap.size,0,none⟩) (n+1) (grownCap w (n+1) c 3)) (w.drew.alloc (.cells ((cs.take (i)).toArray++Builtin.zeroCells (Value.int .i64 0).cells (n+1 - i)++Builtin.zeroCells (Value.int .i64 0).cells (grownCap w (n+1) c 3 - (n+1))) 3)):=fun ty=>by
    have h:=Lib.run_append_grow_zeros w 26 3 ty 3 i0 _ .i64 .i64 tS tI hi0 hz0 (some ⟨b,off,none⟩) i c (cs.take (i)) hold (n+1 - i) (by omega) (by omega) (by omega) (by omega) (by rw [hzb]; omega) (by rw [hzb,hik]; exact growslice_fits hroom hbig)
    rw [hik] at h;rw [hkk];exact h
  obtain ⟨G,hG⟩:∃ G,G=grownCap w (n+1) c 3:=⟨_,rfl⟩;obtain ⟨ROW,hROW⟩:∃ ROW:Array Value,ROW=(cs.take (i)).toArray++Builtin.zeroCells (Value.int .i64 0).cells (n+1 - i)++Builtin.zeroCells (Value.int .i64 0).cells (G - (n+1)):=⟨_,rfl⟩;rw [← hG] at hrz ⊢;rw [← hROW] at hrz ⊢;have hRl:(n+1) * 1≤ROW.size:=by
    have z1:(Builtin.zeroCells (Value.int .i64 0).cells (n+1 - i)).size=(n+1 - i) * 1:=by rw [← Array.length_toList,Am.zeroCells_rep,Am.rep_length]; rfl
    rw [hROW,Array.size_append,Array.size_append,z1,List.size_toArray,htl];omega
  obtain ⟨W1,hW1⟩:∃ W1,W1=w.drew.alloc (.cells ROW 3):=⟨_,rfl⟩;rw [← hW1] at hrz;have hN:∀ j,j < (n+1) * 1→(W1.cell? ⟨w.heap.size,j,none⟩).isSome=true:=fun j hj=>by
    rw [hW1,World.cell?_alloc_at (w:=w.drew) ROW _ w.heap.size j rfl,Array.getElem?_eq_getElem (by omega)]; rfl
  have hNf:∀ j,W1.frozen? ⟨w.heap.size,j,none⟩=false:=fun j=>by rw [hW1]; exact World.frozen?_alloc_at (w:=w.drew) ROW _ w.heap.size j rfl
  have hOb:∀ j v,w.cell? ⟨b,j,none⟩=some v→W1.cell? ⟨b,j,none⟩=some v:=fun j v h=>by rw [hW1,World.cell?_alloc_past (w:=w.drew) _ b j hbw]; exact h
  have hOv:∀ j v,w.cell? ⟨vb,j,none⟩=some v→W1.cell? ⟨vb,j,none⟩=some v:=fun j v h=>by rw [hW1,World.cell?_alloc_past (w:=w.drew) _ vb j hvw]; exact h
  have hcpA:∀ (W:World),(∀ x,W.cell? x=W1.cell? x)→(∀ x,W.frozen? x=W1.frozen? x)→∀ ty dc,(Builtin.copy_ #[26,26] ty #[.slice (some ⟨w.heap.size,i,none⟩) (n+1 - i) dc,.slice (some ⟨vb,voff,none⟩) 1 vc]).run prog W=.ok (goInt (1:Nat)) (W.setCells w.heap.size (i) vs):=fun W hWc hWf ty dc =>
    qCz W _ _ ty 3 1 w.heap.size (i) (n+1 - i) dc ⟨vb,voff,none⟩ 1 vc 1 vs tS hsz (by simp only [Nat.min_def]; split<;>omega) (by rw [hvl])
      (fun j v hj=>by rw [Addr.add_lit,hWc]; exact hOv _ v (hvs j v hj))
      (fun j hj=>by rw [hWc]; exact hN _ (by omega)) (fun j hj=>by rw [hWf]; exact hNf _) h1v
  have hGn:n+1≤G:=by rw [hG]; exact grownCap_ge w _ _ _
  have hG63:G≤9223372036854775807:=by
    have:=grownCap_le_maxLen w (n+1) c 3 (by unfold maxLen; omega)
    rw [← hG] at this;unfold maxLen at this;omega
  have hGi:¬ (G=i):=by omega
  have hGim:¬ (G=i+1):=by omega
  have hci:¬ (c=i):=by omega
  have hbN:b≠w.heap.size:=by omega
  have hdl:(cs.drop (i)).length=(n - i) * 1:=by rw [List.length_drop,hcl]; omega
  have hcpB:∀ (W:World),(∀ x,W.cell? x=(W1.setCells w.heap.size (i) vs).cell? x)→(∀ x,W.frozen? x=(W1.setCells w.heap.size (i) vs).frozen? x)→∀ ty dc sc,(Builtin.copy_ #[26,26] ty #[.slice (some ⟨w.heap.size,(i+1),none⟩) (n - i) dc,.slice (some ⟨b,off+i,none⟩) (n - i) sc]).run prog W=.ok (goInt (n - i:Nat)) (W.setCells w.heap.size ((i+1)) (cs.drop (i))):=fun W hWc hWf ty dc sc =>
    qCz W _ _ ty 3 1 w.heap.size ((i+1)) (n - i) dc ⟨b,off+i,none⟩ (n - i) sc (n - i) (cs.drop (i)) tS hsz (by simp only [Nat.min_def]; split<;>omega) hdl
      (fun j v hj=>by
        rw [Addr.add_lit,hWc,World.cell?_setCells_out _ _ _ _ _ (fun h _=>absurd h hbN),Nat.add_assoc]
        exact hOb _ v (hcs (i+j) v (by rwa [List.getElem?_drop] at hj)))
      (fun j hj=>by rw [hWc]; exact qEf _ _ _ _ (fun t ht=>hN _ (by omega)) _ (hN _ (by omega)))
      (fun j hj=>by rw [hWf,World.frozen?_setCells]; exact hNf _) (fun v hv=>h1c v (List.mem_of_mem_drop hv))
  subst hW1;have hE1:∀ x,((w.alloc (.cells ROW 3)).drew).cell? x=(w.drew.alloc (.cells ROW 3)).cell? x:=fun x=>rfl
  have hE2:∀ x,((w.alloc (.cells ROW 3)).drew).frozen? x=(w.drew.alloc (.cells ROW 3)).frozen? x:=fun x=>rfl
  have hF1:∀ x,(((w.alloc (.cells ROW 3)).drew.setCells w.heap.size (i) vs).drew).cell? x=((w.drew.alloc (.cells ROW 3)).setCells w.heap.size (i) vs).cell? x:=fun x=>rfl
  have hF2:∀ x,(((w.alloc (.cells ROW 3)).drew.setCells w.heap.size (i) vs).drew).frozen? x=((w.drew.alloc (.cells ROW 3)).setCells w.heap.size (i) vs).frozen? x:=fun x=>rfl
  have hw1:IntKind.i64.wrap ((i:Int)+1)=(i:Int)+1:=by rw [IntKind.wrap_i64]; omega
  have hb1:(0:Int)≤(i:Int)+1:=by omega
  have hin:i≤n:=by omega
  have htn:((i:Int)+1).toNat=i+1:=by omega
  have hb3:(i:Int)≤(n:Int):=by omega
  clear hkk hik hold hROW hG hRl
  go_enter Proofs.Tryz.func57,Proofs.Tryz.ntmps57
  go_wp2_with (first
    | (at_builtin; refine Lib.wpList_append_run _ rfl _ _ _ _ rfl _ _ rfl rfl _ _ (hrz _) ?_)
    | (at_builtin; refine qDf _ rfl _ _ 26 26 rfl _ _ rfl rfl (hcpA _ hE1 hE2 _ _) ?_)
    | (at_builtin; refine qDf _ rfl _ _ 26 26 rfl _ _ rfl rfl (hcpB _ (fun _=>rfl) (fun _=>rfl) _ _ _) ?_))
  go_region_law_o (refine qFc rfl _ _ 26 26 rfl (.slice (some ⟨w.heap.size,(i+1),none⟩) (n - i) (G - (i+1))) (.slice (some ⟨b,off+i,none⟩) (n - i) (c - i)) (by simp [Act.eval,Act.put]) (by simp [Act.eval,Act.put]) (hcpB _ hF1 hF2 3 (G - (i+1)) (c - i)) ?_)
  go_wp2
  go_ret
  exact ⟨rfl,rfl⟩

set_option maxHeartbeats 4000000 in
set_option maxRecDepth 100000 in
theorem insIns_grow (b off n c i vb voff vc:Nat) (cs vs:List Value) (w:World) (hi:i < n) (hnc:n≤c) (hroom:c < n+1) (hbig:(n+1) * 32≤140737488355328)
    (hcl:cs.length=n * 4) (hvl:vs.length=4)
    (hcs:∀ j v,cs[j]?=some v→w.cell? ⟨b,off+j,none⟩=some v)
    (hvs:∀ j v,vs[j]?=some v→w.cell? ⟨vb,voff+j,none⟩=some v) (h1c:∀ v∈cs,v.oneCell'=true) (h1v:∀ v∈vs,v.oneCell'=true) :
    Calls prog 56 #[.slice (some ⟨b,off,none⟩) n c,.int .i64 i,.slice (some ⟨vb,voff,none⟩) 1 vc] w fun e w' =>
      e=.returned (.slice (some ⟨w.heap.size,0,none⟩) (n+1) (grownCap w (n+1) c 47)) ∧
      w'=(((w.alloc (.cells ((cs.take (i * 4)).toArray++Builtin.zeroCells (Value.agg #[.int .u8 0,.int .i64 0,.int .i64 0,.int .i64 0]).cells (n+1 - i)++Builtin.zeroCells (Value.agg #[.int .u8 0,.int .i64 0,.int .i64 0,.int .i64 0]).cells (grownCap w (n+1) c 47 - (n+1))) 47)).drew.setCells w.heap.size (i * 4) vs).drew).setCells w.heap.size ((i+1) * 4) (cs.drop (i * 4)):=by
  have mixed:prog.follows .mixedOrders=true:=by kernel_rfl
  have tS:prog.underlying 22=some (.slice 47):=by kernel_rfl
  have uS:=run_underlying tS;have tI:prog.underlying 3=some (.int .i64):=by kernel_rfl
  have uI:=run_underlying tI;obtain ⟨i0,hi0,hz0,hzs,hzb⟩:=info_parts (P:=prog) (e:=47) (z:=Value.agg #[.int .u8 0,.int .i64 0,.int .i64 0,.int .i64 0]) (size:=4) (bytes:=32) (by kernel_rfl)
  have hz2:¬ ((i:Int)=(n:Int)):=by omega
  have hz3:(c:Int) < (n:Int)+1:=by omega
  have hsz:(prog.info? 47).map (·.size)=some 4:=by rw [hi0]; simp [hzs]
  have hbw:b < w.heap.size:=block_lt_of_cell (hcs 0 _ (List.getElem?_eq_getElem (by omega)))
  have hvw:vb < w.heap.size:=block_lt_of_cell (hvs 0 _ (List.getElem?_eq_getElem (by omega)))
  have hkk:(n:Int)+1 - (i:Int)=((n+1 - i:Nat):Int):=by omega
  have hik:i+(n+1 - i)=n+1:=by omega
  have htl:(cs.take (i * 4)).length=i * 4:=by rw [List.length_take]; omega
  have hold:(Builtin.firstCells i0.size i (.slice (some ⟨b,off,none⟩) i c)).run prog w.drew=.ok (cs.take (i * 4)).toArray w.drew:=by
    rw [hzs];exact run_firstCells_some w.drew 4 i ⟨b,off,none⟩ i c (cs.take (i * 4)) (by rw [htl]) (fun j v hj=>by
      rw [Addr.add_lit];rw [List.getElem?_take] at hj
      split at hj
      . exact hcs j v hj
      . cases hj)
  have hrz:∀ ty,(Builtin.append_ #[22,3] ty #[.slice (some ⟨b,off,none⟩) i c,.int .i64 ((n:Int)+1 - (i:Int))]).run prog w =
      .ok (.slice (some ⟨w.heap.size,0,none⟩) (n+1) (grownCap w (n+1) c 47)) (w.drew.alloc (.cells ((cs.take (i * 4)).toArray++Builtin.zeroCells (Value.agg #[.int .u8 0,.int .i64 0,.int .i64 0,.int .i64 0]).cells (n+1 - i)++Builtin.zeroCells (Value.agg #[.int .u8 0,.int .i64 0,.int .i64 0,.int .i64 0]).cells (grownCap w (n+1) c 47 - (n+1))) 47)):=fun ty=>by
    have h:=Lib.run_append_grow_zeros w 22 3 ty 47 i0 _ .i64 .i64 tS tI hi0 hz0 (some ⟨b,off,none⟩) i c (cs.take (i * 4)) hold (n+1 - i) (by omega) (by omega) (by omega) (by omega) (by rw [hzb]; omega) (by rw [hzb,hik]; exact growslice_fits hroom hbig)
    rw [hik] at h;rw [hkk];exact h
  obtain ⟨G,hG⟩:∃ G,G=grownCap w (n+1) c 47:=⟨_,rfl⟩;obtain ⟨ROW,hROW⟩:∃ ROW:Array Value,ROW=(cs.take (i * 4)).toArray++Builtin.zeroCells (Value.agg #[.int .u8 0,.int .i64 0,.int .i64 0,.int .i64 0]).cells (n+1 - i)++Builtin.zeroCells (Value.agg #[.int .u8 0,.int .i64 0,.int .i64 0,.int .i64 0]).cells (G - (n+1)):=⟨_,rfl⟩;rw [← hG] at hrz ⊢;rw [← hROW] at hrz ⊢;have hRl:(n+1) * 4≤ROW.size:=by
    have z1:(Builtin.zeroCells (Value.agg #[.int .u8 0,.int .i64 0,.int .i64 0,.int .i64 0]).cells (n+1 - i)).size=(n+1 - i) * 4:=by rw [← Array.length_toList,Am.zeroCells_rep,Am.rep_length]; rfl
    rw [hROW,Array.size_append,Array.size_append,z1,List.size_toArray,htl];omega
  obtain ⟨W1,hW1⟩:∃ W1,W1=w.drew.alloc (.cells ROW 47):=⟨_,rfl⟩;rw [← hW1] at hrz;have hN:∀ j,j < (n+1) * 4→(W1.cell? ⟨w.heap.size,j,none⟩).isSome=true:=fun j hj=>by
    rw [hW1,World.cell?_alloc_at (w:=w.drew) ROW _ w.heap.size j rfl,Array.getElem?_eq_getElem (by omega)]; rfl
  have hNf:∀ j,W1.frozen? ⟨w.heap.size,j,none⟩=false:=fun j=>by rw [hW1]; exact World.frozen?_alloc_at (w:=w.drew) ROW _ w.heap.size j rfl
  have hOb:∀ j v,w.cell? ⟨b,j,none⟩=some v→W1.cell? ⟨b,j,none⟩=some v:=fun j v h=>by rw [hW1,World.cell?_alloc_past (w:=w.drew) _ b j hbw]; exact h
  have hOv:∀ j v,w.cell? ⟨vb,j,none⟩=some v→W1.cell? ⟨vb,j,none⟩=some v:=fun j v h=>by rw [hW1,World.cell?_alloc_past (w:=w.drew) _ vb j hvw]; exact h
  have hcpA:∀ (W:World),(∀ x,W.cell? x=W1.cell? x)→(∀ x,W.frozen? x=W1.frozen? x)→∀ ty dc,(Builtin.copy_ #[22,22] ty #[.slice (some ⟨w.heap.size,i * 4,none⟩) (n+1 - i) dc,.slice (some ⟨vb,voff,none⟩) 1 vc]).run prog W=.ok (goInt (1:Nat)) (W.setCells w.heap.size (i * 4) vs):=fun W hWc hWf ty dc =>
    qCz W _ _ ty 47 4 w.heap.size (i * 4) (n+1 - i) dc ⟨vb,voff,none⟩ 1 vc 1 vs tS hsz (by simp only [Nat.min_def]; split<;>omega) (by rw [hvl])
      (fun j v hj=>by rw [Addr.add_lit,hWc]; exact hOv _ v (hvs j v hj))
      (fun j hj=>by rw [hWc]; exact hN _ (by omega)) (fun j hj=>by rw [hWf]; exact hNf _) h1v
  have hGn:n+1≤G:=by rw [hG]; exact grownCap_ge w _ _ _
  have hG63:G≤9223372036854775807:=by
    have:=grownCap_le_maxLen w (n+1) c 47 (by unfold maxLen; omega)
    rw [← hG] at this;unfold maxLen at this;omega
  have hGi:¬ (G=i):=by omega
  have hGim:¬ (G=i+1):=by omega
  have hci:¬ (c=i):=by omega
  have hbN:b≠w.heap.size:=by omega
  have hdl:(cs.drop (i * 4)).length=(n - i) * 4:=by rw [List.length_drop,hcl]; omega
  have hcpB:∀ (W:World),(∀ x,W.cell? x=(W1.setCells w.heap.size (i * 4) vs).cell? x)→(∀ x,W.frozen? x=(W1.setCells w.heap.size (i * 4) vs).frozen? x)→∀ ty dc sc,(Builtin.copy_ #[22,22] ty #[.slice (some ⟨w.heap.size,(i+1) * 4,none⟩) (n - i) dc,.slice (some ⟨b,off+i * 4,none⟩) (n - i) sc]).run prog W=.ok (goInt (n - i:Nat)) (W.setCells w.heap.size ((i+1) * 4) (cs.drop (i * 4))):=fun W hWc hWf ty dc sc =>
    qCz W _ _ ty 47 4 w.heap.size ((i+1) * 4) (n - i) dc ⟨b,off+i * 4,none⟩ (n - i) sc (n - i) (cs.drop (i * 4)) tS hsz (by simp only [Nat.min_def]; split<;>omega) hdl
      (fun j v hj=>by
        rw [Addr.add_lit,hWc,World.cell?_setCells_out _ _ _ _ _ (fun h _=>absurd h hbN),Nat.add_assoc]
        exact hOb _ v (hcs (i * 4+j) v (by rwa [List.getElem?_drop] at hj)))
      (fun j hj=>by rw [hWc]; exact qEf _ _ _ _ (fun t ht=>hN _ (by omega)) _ (hN _ (by omega)))
      (fun j hj=>by rw [hWf,World.frozen?_setCells]; exact hNf _) (fun v hv=>h1c v (List.mem_of_mem_drop hv))
  subst hW1;have hE1:∀ x,((w.alloc (.cells ROW 47)).drew).cell? x=(w.drew.alloc (.cells ROW 47)).cell? x:=fun x=>rfl
  have hE2:∀ x,((w.alloc (.cells ROW 47)).drew).frozen? x=(w.drew.alloc (.cells ROW 47)).frozen? x:=fun x=>rfl
  have hF1:∀ x,(((w.alloc (.cells ROW 47)).drew.setCells w.heap.size (i * 4) vs).drew).cell? x=((w.drew.alloc (.cells ROW 47)).setCells w.heap.size (i * 4) vs).cell? x:=fun x=>rfl
  have hF2:∀ x,(((w.alloc (.cells ROW 47)).drew.setCells w.heap.size (i * 4) vs).drew).frozen? x=((w.drew.alloc (.cells ROW 47)).setCells w.heap.size (i * 4) vs).frozen? x:=fun x=>rfl
  have hw1:IntKind.i64.wrap ((i:Int)+1)=(i:Int)+1:=by rw [IntKind.wrap_i64]; omega
  have hb1:(0:Int)≤(i:Int)+1:=by omega
  have hin:i≤n:=by omega
  have htn:((i:Int)+1).toNat=i+1:=by omega
  have hb3:(i:Int)≤(n:Int):=by omega
  clear hkk hik hold hROW hG hRl
  go_enter Proofs.Tryz.func56,Proofs.Tryz.ntmps56
  go_wp2_with (first
    | (at_builtin; refine Lib.wpList_append_run _ rfl _ _ _ _ rfl _ _ rfl rfl _ _ (hrz _) ?_)
    | (at_builtin; refine qDf _ rfl _ _ 22 22 rfl _ _ rfl rfl (hcpA _ hE1 hE2 _ _) ?_)
    | (at_builtin; refine qDf _ rfl _ _ 22 22 rfl _ _ rfl rfl (hcpB _ (fun _=>rfl) (fun _=>rfl) _ _ _) ?_))
  go_region_law_o (refine qFc rfl _ _ 22 22 rfl (.slice (some ⟨w.heap.size,(i+1) * 4,none⟩) (n - i) (G - (i+1))) (.slice (some ⟨b,off+i * 4,none⟩) (n - i) (c - i)) (by simp [Act.eval,Act.put]) (by simp [Act.eval,Act.put]) (hcpB _ hF1 hF2 3 (G - (i+1)) (c - i)) ?_)
  go_wp2
  go_ret
  exact ⟨rfl,rfl⟩
end Am

/- slices.Insert of one element into a row of one's own, not at its end: seen from the abstract machine.
   No condition: plain lemmas. -/

namespace Am
set_option linter.unusedSimpArgs false
set_option linter.unusedVariables false
open Go Go.Lib
open Go.Proofs.Tryz (prog)

section
variable {P : Program} {m : Mu} {H : Heap} {w : World}
theorem qDp {b off:Nat} {arr:Array Value} {T:TypeId} {vs:List Value} (hb:w.heap[b]?=some (.cells arr T (0,0))) (hl:off+vs.length≤arr.size) (h1:∀ v∈vs,v.oneCell'=true) :
    w.setCells b off vs=w.setRow b (over arr.toList off vs).toArray:=by
  have a:=run_storeCells_at prog b off T vs 0 arr w hb (by omega) h1
  have hc:∀ j,j < vs.length→(w.cell? ⟨b,off+0+j,none⟩).isSome=true:=fun j hj=>by
    simp only [World.cell?,hb,Nat.add_zero];rw [Array.getElem?_eq_getElem (by omega)]; rfl
  have hf:∀ j,j < vs.length→w.frozen? ⟨b,off+0+j,none⟩=false:=fun j hj=>by simp [World.frozen?,hb]
  have e:=run_storeCells_cells (P:=prog) b off vs 0 w hc hf h1;simp only [Nat.add_zero] at a e;rw [a] at e
  injection e with e1 e2
  exact e2.symm
theorem qMb (hA:ARel m H w) {id n i k:Nat} {r:Row} (hr:H[id]?=some (.row r)) (hrw:r.rw=true) {L L':Loc} (hL:m id r.ver=some L) (hcl:r.cells.length=n * k) (hi:i < n) {new:List Value} (hnew:new.length=k)
    {w':World} {A:Array Value} {T:TypeId} (hb:w'.heap[L'.blk]?=some (.cells A T (0,0))) (hsame:∀ b,b < w.heap.size→b≠L.blk→w'.heap[b]?=w.heap[b]?)
    (hsize:w.heap.size≤w'.heap.size) (hos:w'.os=w.os) (htape:w'.tape=w.tape) (hout:w'.output=w.output) (hblk:L'.blk=L.blk∨w.heap.size≤L'.blk)
    (hesz:L'.esz=k) (hroom:L'.base+L'.room≤A.size) (hlen:n * k+k≤L'.room)
    (h1:∀ (j:Nat) (v:Value),j < i * k→r.cells[j]?=some v→∃ c,A[L'.base+j]?=some c∧VRel m v c∧cellLike v=true)
    (h2:∀ (j:Nat) (v:Value),new[j]?=some v→∃ c,A[L'.base+(i * k+j)]?=some c∧VRel m v c∧cellLike v=true)
    (h3:∀ (j:Nat) (v:Value),i * k≤j→r.cells[j]?=some v→∃ c,A[L'.base+(j+k)]?=some c∧VRel m v c∧cellLike v=true) :
    ARel (m.put id (r.ver+1) L') (H.set id (.row ⟨r.cells.take (i * k)++new++r.cells.drop (i * k),k,r.ver+1,true⟩)) w'∧Kept m H w (m.put id (r.ver+1) L') (H.set id (.row ⟨r.cells.take (i * k)++new++r.cells.drop (i * k),k,r.ver+1,true⟩)) w':=by
  have hnone:m id (r.ver+1)=none:=by
    cases hm:m id (r.ver+1) with
    | none=>rfl
    | some L=>obtain ⟨q,hq,hle⟩:=hA.fresh id _ L hm; rw [hr] at hq; cases hq; omega
  have hik:i * k≤n * k:=Nat.mul_le_mul_right _ (by omega)
  have htk:(r.cells.take (i * k)).length=i * k:=by rw [List.length_take]; omega
  refine hA.turn (m':=m.put id (r.ver+1) L') (r':=⟨r.cells.take (i * k)++new++r.cells.drop (i * k),k,r.ver+1,true⟩) hr hL hrw hb hsame hsize hos htape hout hblk (Mu.put_ext hnone) (Mu.put_same _ _ _ _) (fun j v L1 hj=>?_) (Nat.le_succ _) rfl hesz hroom ?_ fun j v hj=>?_
  . unfold Mu.put at hj
    split at hj
    . rename_i e1; exact .inr e1
    . exact .inl hj
  . show (r.cells.take (i * k)++new++r.cells.drop (i * k)).length≤L'.room
    simp only [List.length_append,htk,hnew,List.length_drop,hcl];omega
  . have hj:(r.cells.take (i * k)++new++r.cells.drop (i * k))[j]?=some v:=hj
    rw [List.append_assoc] at hj;rcases Nat.lt_or_ge j (i * k) with hlt | hge
    . rw [List.getElem?_append_left (by omega),List.getElem?_take,if_pos hlt] at hj
      exact h1 j v hlt hj
    . rw [List.getElem?_append_right (by omega),htk] at hj
      rcases Nat.lt_or_ge (j - i * k) k with h4 | h4
      . rw [List.getElem?_append_left (by omega)] at hj
        obtain ⟨c,q1,q2,q3⟩:=h2 _ v hj;exact ⟨c,by rw [← q1]; congr 1; omega,q2,q3⟩
      . rw [List.getElem?_append_right (by omega),hnew,List.getElem?_drop] at hj
        obtain ⟨c,q1,q2,q3⟩:=h3 _ v (by omega) hj
        exact ⟨c,by rw [← q1]; congr 1; omega,q2,q3⟩
end

set_option maxHeartbeats 4000000 in
theorem insInt_ACall {H:Heap} {id ver n i id2 ver2:Nat} {cells new:List Value} {K:Value→Heap→Prop} (hr:H[id]?=some (.row ⟨cells,1,ver,true⟩)) (hcl:cells.length=n * 1) (hi:i < n) (hlim:n+1≤lim)
    (hr2:H[id2]?=some (.row ⟨new,1,ver2,true⟩)) (hnew:new.length=1) (hne:id2≠id)
    (hk:K (.slice (some ⟨id,0,none⟩) (n+1) (ver+1)) (H.set id (.row ⟨cells.take (i * 1)++new++cells.drop (i * 1),1,ver+1,true⟩))) :
    qCq prog 57 [.slice (some ⟨id,0,none⟩) n ver,.int .i64 i,.slice (some ⟨id2,0,none⟩) 1 ver2] H K:=by
  intro m w cargs hA hv;have hlimv:lim=1048576:=rfl;obtain ⟨s',x',v',hce,hs',hx',hv'⟩:∃ s' x' v',cargs=#[s',x',v']∧VRel m (.slice (some ⟨id,0,none⟩) n ver) s'∧VRel m (.int .i64 i) x'∧VRel m (.slice (some ⟨id2,0,none⟩) 1 ver2) v':=by
    obtain ⟨l,hl⟩:∃ l,l=cargs.toList:=⟨_,rfl⟩;rw [← hl] at hv;cases hv with
    | cons a1 t1=>cases t1 with
      | cons a2 t2=>cases t2 with
        | cons a3 t3=>cases t3; exact ⟨_,_,_,by rw [← Array.toArray_toList (xs:=cargs),← hl],a1,a2,a3⟩
  subst hce;obtain rfl:=qDq hx';obtain ⟨a',cap,rfl,hcap,hor⟩:=qDu hs';obtain ⟨a2,cap2,rfl,hcap2,hor2⟩:=qDu hv';obtain ⟨L,q1,_,rfl,q2⟩:=hor.resolve_right fun h=>absurd h.1 (by omega)
  obtain ⟨L2,p1,_,rfl,p2⟩:=hor2.resolve_right fun h=>absurd h.1 (by omega)
  obtain ⟨L0,arr,T,fz,g1,g2,g3,g4,g5,g6,g7⟩:=hA.row id _ hr;rw [g7 rfl] at g2;simp only at q1 q2 g1 g3 g5 g6;rw [g1] at q1; cases q1;obtain ⟨L3,arr2,T2,fz2,e1,e2,e3,e4,e5,e6,e7⟩:=hA.row id2 _ hr2;rw [e7 rfl] at e2;simp only at p1 p2 e1 e3 e5 e6;rw [e1] at p1; cases p1;have hblk:L2.blk≠L.blk:=fun e=>hne (hA.sep id _ L id2 _ L2 hr g1 rfl hr2 e1 e.symm)
  have hc1:H.cells? id 0 ver (n * 1)=some cells:=by
    unfold Heap.cells? Heap.row?;rw [hr]; simp [hcl];exact List.take_of_length_le (by omega)
  have hc2:H.cells? id2 0 ver2 (1 * 1)=some new:=by
    unfold Heap.cells? Heap.row?;rw [hr2]; simp [hnew];exact List.take_of_length_le (by omega)
  obtain ⟨cs,o1,o2,o3,o4⟩:=hA.cells hc1 g1;obtain ⟨vs,u1,u2,u3,u4⟩:=hA.cells hc2 e1;have hcsl:cs.length=n * 1:=by rw [← o1.length,hcl]
  have hvsl:vs.length=1:=by rw [← u1.length,hnew]
  simp only [Nat.add_zero,Nat.zero_add] at o4 u4;have hcs:∀ j v,cs[j]?=some v→w.cell? ⟨L.blk,L.base+j,none⟩=some v:=fun j v hj=>by have:=o4 j v hj; rw [qEg] at this; exact this
  have hvs:∀ j v,vs[j]?=some v→w.cell? ⟨L2.blk,L2.base+j,none⟩=some v:=fun j v hj=>by have:=u4 j v hj; rw [qEg] at this; exact this
  have h1c:∀ v∈cs,v.oneCell'=true:=fun v hv=>qFs (o3 v hv)
  have h1v:∀ v∈vs,v.oneCell'=true:=fun v hv=>qFs (u3 v hv)
  have h1d:∀ v∈cs.drop (i),v.oneCell'=true:=fun v hv=>h1c v (List.mem_of_mem_drop hv)
  have rc:∀ (j:Nat) (v:Value),cells[j]?=some v→∃ c,cs[j]?=some c∧VRel m v c∧cellLike v=true:=fun j v hj=>by
    obtain ⟨c,z1,z2⟩:=o1.get j v hj;exact ⟨c,z1,z2,o2 v (List.mem_of_getElem? hj)⟩
  have rn:∀ (j:Nat) (v:Value),new[j]?=some v→∃ c,vs[j]?=some c∧VRel m v c∧cellLike v=true:=fun j v hj=>by
    obtain ⟨c,z1,z2⟩:=u1.get j v hj;exact ⟨c,z1,z2,u2 v (List.mem_of_getElem? hj)⟩
  have hdl:(cs.drop (i)).length=(n - i) * 1:=by rw [List.length_drop,hcsl]; omega
  have hroomA:cap * 1≤L.room:=by rw [g3] at q2; omega
  have hfz0:∀ (b o:Nat) (A:Array Value) (T:TypeId),w.heap[b]?=some (.cells A T (0,0))→w.frozen? ⟨b,o,none⟩=false:=fun b o A T h=>by simp [World.frozen?,h]
  by_cases hfit:n+1≤cap
  . have hsz1:L.base+(n+1) * 1≤arr.size:=by
      have:(n+1) * 1≤cap * 1:=Nat.mul_le_mul_right _ hfit;omega
    refine (insInt_shift L.blk L.base n cap i L2.blk L2.base cap2 cs vs w hi hfit (by have:=qKw hs'; unfold maxLen at this; omega) hblk hcsl hvsl hcs (fun j hj=>?_) (fun j hj=>hfz0 _ _ _ _ g2) hvs h1c h1v T2 T arr2.size arr.size (by simp [World.shape?,e2]) (by simp [World.shape?,g2]) (by omega) (hfz0 _ _ _ _ e2) (hfz0 _ _ _ _ e2)).mono fun e w' he=>?_
    . simp only [World.cell?,g2]
      rw [Array.getElem?_eq_getElem (by omega)]; rfl
    obtain ⟨rfl,rfl⟩:=he;have gd:w.drew.heap[L.blk]?=some (.cells arr T (0,0)):=g2;have r1:=qDp (w:=w.drew) (off:=L.base+(i+1)) (vs:=cs.drop (i)) gd (by rw [hdl]; omega) h1d
    rw [r1];obtain ⟨A1,hA1⟩:∃ A1,A1=(over arr.toList (L.base+(i+1)) (cs.drop (i))).toArray:=⟨_,rfl⟩;have hov1:L.base+(i+1)+(cs.drop (i)).length≤arr.toList.length:=by rw [hdl,Array.length_toList]; omega
    have hA1s:A1.size=arr.size:=by rw [hA1,List.size_toArray,qDj _ _ _ hov1,Array.length_toList]
    rw [← hA1];have gd1:=setRow_heap w.drew L.blk arr A1 T _ gd;have r2:=qDp (w:=w.drew.setRow L.blk A1) (off:=L.base+i) (vs:=vs) gd1 (by rw [hA1s,hvsl]; omega) h1v
    rw [r2];have hov2:L.base+i+vs.length≤A1.toList.length:=by rw [hvsl,Array.length_toList,hA1s]; omega
    obtain ⟨A2,hA2⟩:∃ A2,A2=(over A1.toList (L.base+i) vs).toArray:=⟨_,rfl⟩;have hA2s:A2.size=arr.size:=by rw [hA2,List.size_toArray,qDj _ _ _ hov2,Array.length_toList,hA1s]
    have at2:∀ j,A2[j]?=if L.base+i≤j∧j < L.base+i+vs.length then vs[j - (L.base+i)]? else if L.base+(i+1)≤j∧j < L.base+(i+1)+(cs.drop (i)).length then (cs.drop (i))[j - (L.base+(i+1))]? else arr[j]?:=fun j=>by
      rw [hA2,List.getElem?_toArray,qEp _ _ _ hov2]
      congr 1
      rw [Array.getElem?_toList,hA1,List.getElem?_toArray,qEp _ _ _ hov1,show arr.toList[j]?=arr[j]? from Array.getElem?_toList ..]
    rw [← hA2];have gd2:=setRow_heap (w.drew.setRow L.blk A1) L.blk A1 A2 T _ gd1;have hAd:ARel m H w.drew:=hA.drew _;obtain ⟨t1,t2⟩:=qMb hAd (k:=1) (n:=n) (i:=i) hr rfl g1 hcl hi hnew (L':=L) (A:=A2) gd2 (fun b hb hb2=>by rw [setRow_other _ _ _ _ hb2,setRow_other _ _ _ _ hb2]) (by simp [World.setRow]) rfl rfl rfl (.inl rfl) g3 (by rw [hA2s]; exact g4) (by have:(n+1) * 1≤cap * 1:=Nat.mul_le_mul_right _ hfit; omega)
      (fun j v hj hv=>by
        obtain ⟨c,z1,z2,z3⟩:=g6 j v hv;refine ⟨c,?_,z2,z3⟩;rw [at2,if_neg (by omega),if_neg (by omega)]; exact z1)
      (fun j v hv=>by
        obtain ⟨c,z1,z2,z3⟩:=rn j v hv;refine ⟨c,?_,z2,z3⟩;have:=(List.getElem?_eq_some_iff.1 z1).1;rw [at2,if_pos (by omega),show L.base+((i * 1)+j) - (L.base+i)=j by omega]; exact z1)
      (fun j v hj hv=>by
        obtain ⟨c,z1,z2,z3⟩:=rc j v hv;refine ⟨c,?_,z2,z3⟩;have:=(List.getElem?_eq_some_iff.1 z1).1;rw [at2,if_neg (by rw [hvsl]; omega),if_pos (by rw [hdl]; omega),List.getElem?_drop,show i+(L.base+(j+1) - (L.base+(i+1)))=j by omega]; exact z1)
    refine ⟨_,_,_,_,rfl,hk,?_,t1,(Kept.drew m H w _).trans t2⟩;have:=VRel.slice (off:=0) (len:=n+1) (cap:=cap) (Mu.put_same m id (ver+1) L) hfit (by rw [g3]; omega) (qKw hs')
    simpa using this
  . have hbound:cap≤n:=by omega
    have hcapn:cap=n:=by omega
    refine (insInt_grow L.blk L.base n cap i L2.blk L2.base cap2 cs vs w hi hcap (by omega) (by omega) hcsl hvsl hcs hvs h1c h1v).mono fun e w' he=>?_
    obtain ⟨rfl,rfl⟩:=he;obtain ⟨G,hG⟩:∃ G,G=grownCap w (n+1) cap 3:=⟨_,rfl⟩;have hge:n+1≤G:=by rw [hG]; exact grownCap_ge w _ _ _
    obtain ⟨R,hR⟩:∃ R:Array Value,R=(cs.take (i)).toArray++Builtin.zeroCells (Value.int .i64 0).cells (n+1 - i)++Builtin.zeroCells (Value.int .i64 0).cells (grownCap w (n+1) cap 3 - (n+1)):=⟨_,rfl⟩;have zs:∀ q,(Builtin.zeroCells (Value.int .i64 0).cells q).size=q * 1:=fun q=>by rw [← Array.length_toList,zeroCells_rep,rep_length]; rfl
    have htl:(cs.take (i)).length=i:=by rw [List.length_take]; omega
    have hRs:R.size=G * 1:=by
      rw [hR,Array.size_append,Array.size_append,zs,zs,List.size_toArray,htl,← hG];omega
    rw [← hR,← hG];obtain ⟨W0,hW0⟩:∃ W0,W0=(w.alloc (.cells R 3)).drew:=⟨_,rfl⟩;have gd0:W0.heap[w.heap.size]?=some (.cells R 3 (0,0)):=by rw [hW0]; exact heap_alloc_new w _
    rw [← hW0];have r1:=qDp (w:=W0) (off:=i) (vs:=vs) gd0 (by rw [hvsl,hRs]; omega) h1v
    rw [r1];have hov1:i+vs.length≤R.toList.length:=by rw [hvsl,Array.length_toList,hRs]; omega
    obtain ⟨A1,hA1⟩:∃ A1,A1=(over R.toList (i) vs).toArray:=⟨_,rfl⟩;have hA1s:A1.size=R.size:=by rw [hA1,List.size_toArray,qDj _ _ _ hov1,Array.length_toList]
    rw [← hA1];have gd1:(W0.setRow w.heap.size A1).drew.heap[w.heap.size]?=some (.cells A1 3 (0,0)):=setRow_heap W0 w.heap.size R A1 _ _ gd0;have r2:=qDp (w:=(W0.setRow w.heap.size A1).drew) (off:=(i+1)) (vs:=cs.drop (i)) gd1 (by rw [hA1s,hdl,hRs]; omega) h1d
    rw [r2];have hov2:(i+1)+(cs.drop (i)).length≤A1.toList.length:=by rw [hdl,Array.length_toList,hA1s,hRs]; omega
    obtain ⟨A2,hA2⟩:∃ A2,A2=(over A1.toList ((i+1)) (cs.drop (i))).toArray:=⟨_,rfl⟩;have hA2s:A2.size=R.size:=by rw [hA2,List.size_toArray,qDj _ _ _ hov2,Array.length_toList,hA1s]
    have at2:∀ j,A2[j]?=if (i+1)≤j∧j < (i+1)+(cs.drop (i)).length then (cs.drop (i))[j - ((i+1))]? else if i≤j∧j < i+vs.length then vs[j - (i)]? else R[j]?:=fun j=>by
      rw [hA2,List.getElem?_toArray,qEp _ _ _ hov2]
      congr 1
      rw [Array.getElem?_toList,hA1,List.getElem?_toArray,qEp _ _ _ hov1,show R.toList[j]?=R[j]? from Array.getElem?_toList ..]
    rw [← hA2];have gd2:((W0.setRow w.heap.size A1).drew.setRow w.heap.size A2).heap[w.heap.size]?=some (.cells A2 3 (0,0)):=setRow_heap (W0.setRow w.heap.size A1).drew w.heap.size A1 A2 _ _ gd1;have hold:∀ b,b < w.heap.size→((W0.setRow w.heap.size A1).drew.setRow w.heap.size A2).heap[b]?=w.heap[b]?:=fun b hb=>by
      rw [setRow_other _ _ _ _ (by omega)]
      show (W0.setRow w.heap.size A1).heap[b]?=_;rw [setRow_other _ _ _ _ (by omega),hW0]
      exact heap_alloc_old w _ hb
    obtain ⟨t1,t2⟩:=qMb hA (k:=1) (n:=n) (i:=i) hr rfl g1 hcl hi hnew (L':=⟨w.heap.size,0,R.size,1⟩) (A:=A2) gd2 (fun b hb _=>hold b hb) (by subst hW0; simp [World.setRow,World.drew]) (by subst hW0; rfl) (by subst hW0; rfl) (by subst hW0; rfl) (.inr (Nat.le_refl _)) rfl (by simp only; rw [hA2s]; omega) (by simp only; rw [hRs]; omega)
      (fun j v hj hv=>by
        obtain ⟨c,z1,z2,z3⟩:=rc j v hv;refine ⟨c,?_,z2,z3⟩;have:=(List.getElem?_eq_some_iff.1 z1).1;simp only [Nat.zero_add];rw [at2,if_neg (by omega),if_neg (by omega),hR,Array.getElem?_append_left (by rw [Array.size_append,List.size_toArray,htl]; omega),Array.getElem?_append_left (by rw [List.size_toArray,htl]; omega),List.getElem?_toArray,List.getElem?_take,if_pos (by omega)]; exact z1)
      (fun j v hv=>by
        obtain ⟨c,z1,z2,z3⟩:=rn j v hv;refine ⟨c,?_,z2,z3⟩;have:=(List.getElem?_eq_some_iff.1 z1).1;simp only [Nat.zero_add];rw [at2,if_neg (by omega),if_pos (by omega),show (i * 1)+j - (i)=j by omega]; exact z1)
      (fun j v hj hv=>by
        obtain ⟨c,z1,z2,z3⟩:=rc j v hv;refine ⟨c,?_,z2,z3⟩;have:=(List.getElem?_eq_some_iff.1 z1).1;simp only [Nat.zero_add];rw [at2,if_pos (by rw [hdl]; omega),List.getElem?_drop,show i+(j+1 - ((i+1)))=j by omega]; exact z1)
    refine ⟨_,_,_,_,rfl,hk,?_,t1,t2⟩;have:=VRel.slice (off:=0) (len:=n+1) (cap:=G) (Mu.put_same m id (ver+1) ⟨w.heap.size,0,R.size,1⟩) hge (by simp only; rw [hRs]; omega) (by rw [hG]; exact grownCap_le_maxLen w _ _ _ (by unfold maxLen; omega))
    simpa using this

set_option maxHeartbeats 4000000 in
theorem insIns_ACall {H:Heap} {id ver n i id2 ver2:Nat} {cells new:List Value} {K:Value→Heap→Prop} (hr:H[id]?=some (.row ⟨cells,4,ver,true⟩)) (hcl:cells.length=n * 4) (hi:i < n) (hlim:n+1≤lim)
    (hr2:H[id2]?=some (.row ⟨new,4,ver2,true⟩)) (hnew:new.length=4) (hne:id2≠id)
    (hk:K (.slice (some ⟨id,0,none⟩) (n+1) (ver+1)) (H.set id (.row ⟨cells.take (i * 4)++new++cells.drop (i * 4),4,ver+1,true⟩))) :
    qCq prog 56 [.slice (some ⟨id,0,none⟩) n ver,.int .i64 i,.slice (some ⟨id2,0,none⟩) 1 ver2] H K:=by
  intro m w cargs hA hv;have hlimv:lim=1048576:=rfl;obtain ⟨s',x',v',hce,hs',hx',hv'⟩:∃ s' x' v',cargs=#[s',x',v']∧VRel m (.slice (some ⟨id,0,none⟩) n ver) s'∧VRel m (.int .i64 i) x'∧VRel m (.slice (some ⟨id2,0,none⟩) 1 ver2) v':=by
    obtain ⟨l,hl⟩:∃ l,l=cargs.toList:=⟨_,rfl⟩;rw [← hl] at hv;cases hv with
    | cons a1 t1=>cases t1 with
      | cons a2 t2=>cases t2 with
        | cons a3 t3=>cases t3; exact ⟨_,_,_,by rw [← Array.toArray_toList (xs:=cargs),← hl],a1,a2,a3⟩
  subst hce;obtain rfl:=qDq hx';obtain ⟨a',cap,rfl,hcap,hor⟩:=qDu hs';obtain ⟨a2,cap2,rfl,hcap2,hor2⟩:=qDu hv';obtain ⟨L,q1,_,rfl,q2⟩:=hor.resolve_right fun h=>absurd h.1 (by omega)
  obtain ⟨L2,p1,_,rfl,p2⟩:=hor2.resolve_right fun h=>absurd h.1 (by omega)
  obtain ⟨L0,arr,T,fz,g1,g2,g3,g4,g5,g6,g7⟩:=hA.row id _ hr;rw [g7 rfl] at g2;simp only at q1 q2 g1 g3 g5 g6;rw [g1] at q1; cases q1;obtain ⟨L3,arr2,T2,fz2,e1,e2,e3,e4,e5,e6,e7⟩:=hA.row id2 _ hr2;rw [e7 rfl] at e2;simp only at p1 p2 e1 e3 e5 e6;rw [e1] at p1; cases p1;have hblk:L2.blk≠L.blk:=fun e=>hne (hA.sep id _ L id2 _ L2 hr g1 rfl hr2 e1 e.symm)
  have hc1:H.cells? id 0 ver (n * 4)=some cells:=by
    unfold Heap.cells? Heap.row?;rw [hr]; simp [hcl];exact List.take_of_length_le (by omega)
  have hc2:H.cells? id2 0 ver2 (1 * 4)=some new:=by
    unfold Heap.cells? Heap.row?;rw [hr2]; simp [hnew];exact List.take_of_length_le (by omega)
  obtain ⟨cs,o1,o2,o3,o4⟩:=hA.cells hc1 g1;obtain ⟨vs,u1,u2,u3,u4⟩:=hA.cells hc2 e1;have hcsl:cs.length=n * 4:=by rw [← o1.length,hcl]
  have hvsl:vs.length=4:=by rw [← u1.length,hnew]
  simp only [Nat.add_zero,Nat.zero_add] at o4 u4;have hcs:∀ j v,cs[j]?=some v→w.cell? ⟨L.blk,L.base+j,none⟩=some v:=fun j v hj=>by have:=o4 j v hj; rw [qEg] at this; exact this
  have hvs:∀ j v,vs[j]?=some v→w.cell? ⟨L2.blk,L2.base+j,none⟩=some v:=fun j v hj=>by have:=u4 j v hj; rw [qEg] at this; exact this
  have h1c:∀ v∈cs,v.oneCell'=true:=fun v hv=>qFs (o3 v hv)
  have h1v:∀ v∈vs,v.oneCell'=true:=fun v hv=>qFs (u3 v hv)
  have h1d:∀ v∈cs.drop (i * 4),v.oneCell'=true:=fun v hv=>h1c v (List.mem_of_mem_drop hv)
  have rc:∀ (j:Nat) (v:Value),cells[j]?=some v→∃ c,cs[j]?=some c∧VRel m v c∧cellLike v=true:=fun j v hj=>by
    obtain ⟨c,z1,z2⟩:=o1.get j v hj;exact ⟨c,z1,z2,o2 v (List.mem_of_getElem? hj)⟩
  have rn:∀ (j:Nat) (v:Value),new[j]?=some v→∃ c,vs[j]?=some c∧VRel m v c∧cellLike v=true:=fun j v hj=>by
    obtain ⟨c,z1,z2⟩:=u1.get j v hj;exact ⟨c,z1,z2,u2 v (List.mem_of_getElem? hj)⟩
  have hdl:(cs.drop (i * 4)).length=(n - i) * 4:=by rw [List.length_drop,hcsl]; omega
  have hroomA:cap * 4≤L.room:=by rw [g3] at q2; omega
  have hfz0:∀ (b o:Nat) (A:Array Value) (T:TypeId),w.heap[b]?=some (.cells A T (0,0))→w.frozen? ⟨b,o,none⟩=false:=fun b o A T h=>by simp [World.frozen?,h]
  by_cases hfit:n+1≤cap
  . have hsz1:L.base+(n+1) * 4≤arr.size:=by
      have:(n+1) * 4≤cap * 4:=Nat.mul_le_mul_right _ hfit;omega
    refine (insIns_shift L.blk L.base n cap i L2.blk L2.base cap2 cs vs w hi hfit (by have:=qKw hs'; unfold maxLen at this; omega) hblk hcsl hvsl hcs (fun j hj=>?_) (fun j hj=>hfz0 _ _ _ _ g2) hvs h1c h1v T2 T arr2.size arr.size (by simp [World.shape?,e2]) (by simp [World.shape?,g2]) (by omega) (hfz0 _ _ _ _ e2) (hfz0 _ _ _ _ e2)).mono fun e w' he=>?_
    . simp only [World.cell?,g2]
      rw [Array.getElem?_eq_getElem (by omega)]; rfl
    obtain ⟨rfl,rfl⟩:=he;have gd:w.drew.heap[L.blk]?=some (.cells arr T (0,0)):=g2;have r1:=qDp (w:=w.drew) (off:=L.base+(i+1) * 4) (vs:=cs.drop (i * 4)) gd (by rw [hdl]; omega) h1d
    rw [r1];obtain ⟨A1,hA1⟩:∃ A1,A1=(over arr.toList (L.base+(i+1) * 4) (cs.drop (i * 4))).toArray:=⟨_,rfl⟩;have hov1:L.base+(i+1) * 4+(cs.drop (i * 4)).length≤arr.toList.length:=by rw [hdl,Array.length_toList]; omega
    have hA1s:A1.size=arr.size:=by rw [hA1,List.size_toArray,qDj _ _ _ hov1,Array.length_toList]
    rw [← hA1];have gd1:=setRow_heap w.drew L.blk arr A1 T _ gd;have r2:=qDp (w:=w.drew.setRow L.blk A1) (off:=L.base+i * 4) (vs:=vs) gd1 (by rw [hA1s,hvsl]; omega) h1v
    rw [r2];have hov2:L.base+i * 4+vs.length≤A1.toList.length:=by rw [hvsl,Array.length_toList,hA1s]; omega
    obtain ⟨A2,hA2⟩:∃ A2,A2=(over A1.toList (L.base+i * 4) vs).toArray:=⟨_,rfl⟩;have hA2s:A2.size=arr.size:=by rw [hA2,List.size_toArray,qDj _ _ _ hov2,Array.length_toList,hA1s]
    have at2:∀ j,A2[j]?=if L.base+i * 4≤j∧j < L.base+i * 4+vs.length then vs[j - (L.base+i * 4)]? else if L.base+(i+1) * 4≤j∧j < L.base+(i+1) * 4+(cs.drop (i * 4)).length then (cs.drop (i * 4))[j - (L.base+(i+1) * 4)]? else arr[j]?:=fun j=>by
      rw [hA2,List.getElem?_toArray,qEp _ _ _ hov2]
      congr 1
      rw [Array.getElem?_toList,hA1,List.getElem?_toArray,qEp _ _ _ hov1,show arr.toList[j]?=arr[j]? from Array.getElem?_toList ..]
    rw [← hA2];have gd2:=setRow_heap (w.drew.setRow L.blk A1) L.blk A1 A2 T _ gd1;have hAd:ARel m H w.drew:=hA.drew _;obtain ⟨t1,t2⟩:=qMb hAd (k:=4) (n:=n) (i:=i) hr rfl g1 hcl hi hnew (L':=L) (A:=A2) gd2 (fun b hb hb2=>by rw [setRow_other _ _ _ _ hb2,setRow_other _ _ _ _ hb2]) (by simp [World.setRow]) rfl rfl rfl (.inl rfl) g3 (by rw [hA2s]; exact g4) (by have:(n+1) * 4≤cap * 4:=Nat.mul_le_mul_right _ hfit; omega)
      (fun j v hj hv=>by
        obtain ⟨c,z1,z2,z3⟩:=g6 j v hv;refine ⟨c,?_,z2,z3⟩;rw [at2,if_neg (by omega),if_neg (by omega)]; exact z1)
      (fun j v hv=>by
        obtain ⟨c,z1,z2,z3⟩:=rn j v hv;refine ⟨c,?_,z2,z3⟩;have:=(List.getElem?_eq_some_iff.1 z1).1;rw [at2,if_pos (by omega),show L.base+((i * 4)+j) - (L.base+i * 4)=j by omega]; exact z1)
      (fun j v hj hv=>by
        obtain ⟨c,z1,z2,z3⟩:=rc j v hv;refine ⟨c,?_,z2,z3⟩;have:=(List.getElem?_eq_some_iff.1 z1).1;rw [at2,if_neg (by rw [hvsl]; omega),if_pos (by rw [hdl]; omega),List.getElem?_drop,show i * 4+(L.base+(j+4) - (L.base+(i+1) * 4))=j by omega]; exact z1)
    refine ⟨_,_,_,_,rfl,hk,?_,t1,(Kept.drew m H w _).trans t2⟩;have:=VRel.slice (off:=0) (len:=n+1) (cap:=cap) (Mu.put_same m id (ver+1) L) hfit (by rw [g3]; omega) (qKw hs')
    simpa using this
  . have hbound:cap≤n:=by omega
    have hcapn:cap=n:=by omega
    refine (insIns_grow L.blk L.base n cap i L2.blk L2.base cap2 cs vs w hi hcap (by omega) (by omega) hcsl hvsl hcs hvs h1c h1v).mono fun e w' he=>?_
    obtain ⟨rfl,rfl⟩:=he;obtain ⟨G,hG⟩:∃ G,G=grownCap w (n+1) cap 47:=⟨_,rfl⟩;have hge:n+1≤G:=by rw [hG]; exact grownCap_ge w _ _ _
    obtain ⟨R,hR⟩:∃ R:Array Value,R=(cs.take (i * 4)).toArray++Builtin.zeroCells (Value.agg #[.int .u8 0,.int .i64 0,.int .i64 0,.int .i64 0]).cells (n+1 - i)++Builtin.zeroCells (Value.agg #[.int .u8 0,.int .i64 0,.int .i64 0,.int .i64 0]).cells (grownCap w (n+1) cap 47 - (n+1)):=⟨_,rfl⟩;have zs:∀ q,(Builtin.zeroCells (Value.agg #[.int .u8 0,.int .i64 0,.int .i64 0,.int .i64 0]).cells q).size=q * 4:=fun q=>by rw [← Array.length_toList,zeroCells_rep,rep_length]; rfl
    have htl:(cs.take (i * 4)).length=i * 4:=by rw [List.length_take]; omega
    have hRs:R.size=G * 4:=by
      rw [hR,Array.size_append,Array.size_append,zs,zs,List.size_toArray,htl,← hG];omega
    rw [← hR,← hG];obtain ⟨W0,hW0⟩:∃ W0,W0=(w.alloc (.cells R 47)).drew:=⟨_,rfl⟩;have gd0:W0.heap[w.heap.size]?=some (.cells R 47 (0,0)):=by rw [hW0]; exact heap_alloc_new w _
    rw [← hW0];have r1:=qDp (w:=W0) (off:=i * 4) (vs:=vs) gd0 (by rw [hvsl,hRs]; omega) h1v
    rw [r1];have hov1:i * 4+vs.length≤R.toList.length:=by rw [hvsl,Array.length_toList,hRs]; omega
    obtain ⟨A1,hA1⟩:∃ A1,A1=(over R.toList (i * 4) vs).toArray:=⟨_,rfl⟩;have hA1s:A1.size=R.size:=by rw [hA1,List.size_toArray,qDj _ _ _ hov1,Array.length_toList]
    rw [← hA1];have gd1:(W0.setRow w.heap.size A1).drew.heap[w.heap.size]?=some (.cells A1 47 (0,0)):=setRow_heap W0 w.heap.size R A1 _ _ gd0;have r2:=qDp (w:=(W0.setRow w.heap.size A1).drew) (off:=(i+1) * 4) (vs:=cs.drop (i * 4)) gd1 (by rw [hA1s,hdl,hRs]; omega) h1d
    rw [r2];have hov2:(i+1) * 4+(cs.drop (i * 4)).length≤A1.toList.length:=by rw [hdl,Array.length_toList,hA1s,hRs]; omega
    obtain ⟨A2,hA2⟩:∃ A2,A2=(over A1.toList ((i+1) * 4) (cs.drop (i * 4))).toArray:=⟨_,rfl⟩;have hA2s:A2.size=R.size:=by rw [hA2,List.size_toArray,qDj _ _ _ hov2,Array.length_toList,hA1s]
    have at2:∀ j,A2[j]?=if (i+1) * 4≤j∧j < (i+1) * 4+(cs.drop (i * 4)).length then (cs.drop (i * 4))[j - ((i+1) * 4)]? else if i * 4≤j∧j < i * 4+vs.length then vs[j - (i * 4)]? else R[j]?:=fun j=>by
      rw [hA2,List.getElem?_toArray,qEp _ _ _ hov2]
      congr 1
      rw [Array.getElem?_toList,hA1,List.getElem?_toArray,qEp _ _ _ hov1,show R.toList[j]?=R[j]? from Array.getElem?_toList ..]
    rw [← hA2];have gd2:((W0.setRow w.heap.size A1).drew.setRow w.heap.size A2).heap[w.heap.size]?=some (.cells A2 47 (0,0)):=setRow_heap (W0.setRow w.heap.size A1).drew w.heap.size A1 A2 _ _ gd1;have hold:∀ b,b < w.heap.size→((W0.setRow w.heap.size A1).drew.setRow w.heap.size A2).heap[b]?=w.heap[b]?:=fun b hb=>by
      rw [setRow_other _ _ _ _ (by omega)]
      show (W0.setRow w.heap.size A1).heap[b]?=_;rw [setRow_other _ _ _ _ (by omega),hW0]
      exact heap_alloc_old w _ hb
    obtain ⟨t1,t2⟩:=qMb hA (k:=4) (n:=n) (i:=i) hr rfl g1 hcl hi hnew (L':=⟨w.heap.size,0,R.size,4⟩) (A:=A2) gd2 (fun b hb _=>hold b hb) (by subst hW0; simp [World.setRow,World.drew]) (by subst hW0; rfl) (by subst hW0; rfl) (by subst hW0; rfl) (.inr (Nat.le_refl _)) rfl (by simp only; rw [hA2s]; omega) (by simp only; rw [hRs]; omega)
      (fun j v hj hv=>by
        obtain ⟨c,z1,z2,z3⟩:=rc j v hv;refine ⟨c,?_,z2,z3⟩;have:=(List.getElem?_eq_some_iff.1 z1).1;simp only [Nat.zero_add];rw [at2,if_neg (by omega),if_neg (by omega),hR,Array.getElem?_append_left (by rw [Array.size_append,List.size_toArray,htl]; omega),Array.getElem?_append_left (by rw [List.size_toArray,htl]; omega),List.getElem?_toArray,List.getElem?_take,if_pos (by omega)]; exact z1)
      (fun j v hv=>by
        obtain ⟨c,z1,z2,z3⟩:=rn j v hv;refine ⟨c,?_,z2,z3⟩;have:=(List.getElem?_eq_some_iff.1 z1).1;simp only [Nat.zero_add];rw [at2,if_neg (by omega),if_pos (by omega),show (i * 4)+j - (i * 4)=j by omega]; exact z1)
      (fun j v hj hv=>by
        obtain ⟨c,z1,z2,z3⟩:=rc j v hv;refine ⟨c,?_,z2,z3⟩;have:=(List.getElem?_eq_some_iff.1 z1).1;simp only [Nat.zero_add];rw [at2,if_pos (by rw [hdl]; omega),List.getElem?_drop,show i * 4+(j+4 - ((i+1) * 4))=j by omega]; exact z1)
    refine ⟨_,_,_,_,rfl,hk,?_,t1,t2⟩;have:=VRel.slice (off:=0) (len:=n+1) (cap:=G) (Mu.put_same m id (ver+1) ⟨w.heap.size,0,R.size,4⟩) hge (by simp only; rw [hRs]; omega) (by rw [hG]; exact grownCap_le_maxLen w _ _ _ (by unfold maxLen; omega))
    simpa using this
end Am

/- One element put into a row of one's own: by both machines.
   No condition: plain lemmas. -/

namespace Pm
set_option linter.unusedSimpArgs false
set_option linter.unusedVariables false
open Go Am
open Go.Proofs.Tryz (prog)

section
variable {h : Heap} {K : Value → Heap → Prop}
theorem ins_PCall {P:Program} {f:FuncId} {e:Nat} (hf:∀ {H:Heap} {id ver n i id2 ver2:Nat} {cells new:List Value} {K:Value→Heap→Prop} (hr:H[id]?=some (.row ⟨cells,e,ver,true⟩)) (hcl:cells.length=n * e) (hi:i < n) (hlim:n+1≤lim)
    (hr2:H[id2]?=some (.row ⟨new,e,ver2,true⟩)) (hnew:new.length=e) (hne:id2≠id)
    (hk:K (.slice (some ⟨id,0,none⟩) (n+1) (ver+1)) (H.set id (.row ⟨cells.take (i * e)++new++cells.drop (i * e),e,ver+1,true⟩))),
    qCq P f [.slice (some ⟨id,0,none⟩) n ver,.int .i64 i,.slice (some ⟨id2,0,none⟩) 1 ver2] H K)
    {id ver n i id2 ver2:Nat} {cells new:List Value} (hr:h[id]?=some (.row ⟨cells,e,ver,true⟩)) (hcl:cells.length=n * e) (hi:i < n) (hlim:n+1≤lim)
    (hr2:h[id2]?=some (.row ⟨new,e,ver2,true⟩)) (hnew:new.length=e) (hne:id2≠id)
    (hk:K (.slice (some ⟨id,0,none⟩) (n+1) (ver+1)) (h.set id (.row ⟨cells.take (i * e)++new++cells.drop (i * e),e,ver+1,true⟩))) :
    qBl P f [.slice (some ⟨id,0,none⟩) n ver,.int .i64 i,.slice (some ⟨id2,0,none⟩) 1 ver2] h K:=by
  intro m H vals hP hrs;obtain ⟨a,r',k1,k2,k3,k4,k5,k6⟩:=hP.row id _ hr;obtain ⟨a2,r2',j1,j2,j3,j4,j5,j6⟩:=hP.row id2 _ hr2;obtain ⟨c',e',v',w'⟩:=r';obtain ⟨c2',e2',v2',w2'⟩:=r2';simp only at k3 k4 k5 k6 j3 j4 j5 j6;subst e' v' e2' v2';have w1:w'=true:=k5 trivial;have w2:w2'=true:=j5 trivial;subst w' w2';have hv:vals=[.slice (some ⟨a,0,none⟩) n ver,.int .i64 i,.slice (some ⟨a2,0,none⟩) 1 ver2]:=by
    cases hrs with
    | cons q1 t1=>cases t1 with
      | cons q2 t2=>cases t2 with
        | cons q3 t3 =>
          cases t3;cases q1 with
          | slice z1 =>
            cases q2;cases q3 with
            | slice z3 =>
              rw [k1] at z1; rw [j1] at z3;cases z1; cases z3; rfl
  subst hv;have hne2:a2≠a:=fun x=>hne (hP.inj id2 id a2 j1 (by rw [x]; exact k1))
  obtain ⟨q1,q2⟩:=hP.turn hr rfl k1 (r1:=⟨cells.take (i * e)++new++cells.drop (i * e),e,ver+1,true⟩) (r':=⟨c'.take (i * e)++c2'++c'.drop (i * e),e,ver+1,true⟩) (((k6.take _).append j6).append (k6.drop _)) rfl rfl fun _=>rfl
  refine hf k2 (by rw [← k6.length]; exact hcl) hi hlim j2 (by rw [← j6.length]; exact hnew) hne2 ?_
  exact ⟨_,_,m,hk,q1,.slice k1,.refl m,q2⟩
end
end Pm
