/- Texts of the clean machine, joined. No claim is stated here. -/
import Derived.Test.YtlcgclmobfdbcaaGreatFa1
import Derived.Maps.RangeRun
import Derived.LoopN
import Derived.KernelRfl
import Derived.ChangeArms
import Derived.OpenShut
import Derived.DataReads
import Derived.ChangeStays
import Derived.ReadAgain
import Derived.ChangeOld
import Derived.Below
set_option linter.unusedVariables false
set_option linter.unusedSimpArgs false
namespace Go.Proofs.YtlcgclmobfdbcaaGreat.Cl
open Go
open Go.ChangeMaps (setBlock)
theorem Tr.extra {μ h w} (r:Rel μ h w) (x:Obj):Tr μ h w μ h (w.alloc x):=by
 refine ⟨⟨fun o cs ho=>?_,fun o cs ho i v hv=>?_,fun o es ho=>?_,r.sep⟩,Step.refl _ _,⟨rfl,rfl,rfl,by rw [zQ];omega,fun k hk _=>wh _ _ _ hk,Nat.le_refl _⟩,fun _ h=> .inl h,fun _ h=> .inl h⟩
 ·obtain ⟨h1,h2,h3,h4⟩:=r.own o cs ho
  refine ⟨by rw [zQ];omega,h2,fun i hi=>?_,fun i v hv=>?_⟩
  ·rw [cell?_alloc_lt' _ _ _ h1,frozen?_alloc_lt' _ _ _ h1];exact h3 i hi
  ·obtain ⟨q,d,h5,h6⟩:=h4 i v hv
   exact ⟨q,d,by rw [cell?_alloc_lt' _ _ _ h1];exact h5,h6⟩
 ·obtain ⟨q,d,h5,h6⟩:=r.ro o cs ho i v hv
  exact ⟨q,d,by rw [cell?_alloc_lt' _ _ _ (vZ h5)];exact h5,h6⟩
 ·obtain ⟨h1,ms,ck,h2,h3,h4⟩:=r.mp o es ho
  exact ⟨by rw [zQ];omega,ms,ck,by rw [wh _ _ _ h1];exact h2,h3,h4⟩
theorem ZD {w:World} {rb k:Nat} {x:Obj} (h:k≠rb):(setBlock w rb x).heap[k]? = w.heap[k]? :=by
 show (w.heap.setIfInBounds rb x)[k]? = _
 rw [Array.getElem?_setIfInBounds,if_neg (fun e=>h e.symm)]
theorem ziV {w:World} {rb:Nat} {x y:Obj} (h:w.heap[rb]? = some y):(setBlock w rb x).heap[rb]? = some x:=by
 have:rb<w.heap.size:=by
  rcases Nat.lt_or_ge rb w.heap.size with hl | hl
  ·exact hl
  ·rw [Array.getElem?_eq_none hl] at h;cases h
 show (w.heap.setIfInBounds rb x)[rb]? = _
 rw [Array.getElem?_setIfInBounds,if_pos rfl,if_pos this]
theorem ziW {w:World} {rb:Nat} {m s c m' s' c'} {se se':Array Nat} (h:w.heap[rb]? = some (.mapIter m s se c)) (a:Addr):(setBlock w rb (.mapIter m' s' se' c')).cell? a=w.cell? a:=by
 unfold World.cell?
 by_cases e:a.block=rb
 ·rw [e,ziV h,h]
 ·rw [ZD e]
theorem zqu {w:World} {rb:Nat} {m s c m' s' c'} {se se':Array Nat} (h:w.heap[rb]? = some (.mapIter m s se c)) (a:Addr):(setBlock w rb (.mapIter m' s' se' c')).frozen? a=w.frozen? a:=by
 unfold World.frozen?
 by_cases e:a.block=rb
 ·rw [e,ziV h,h]
 ·rw [ZD e]
theorem Rel.iter {μ h w} (r:Rel μ h w) {rb:Nat} {m s c m' s' c'} {se se':Array Nat} (hr:w.heap[rb]? = some (.mapIter m s se c)):Rel μ h (setBlock w rb (.mapIter m' s' se' c')):=by
 have hs:(setBlock w rb (.mapIter m' s' se' c')).heap.size=w.heap.size:=by simp [setBlock]
 refine ⟨fun o cs ho=>?_,fun o cs ho i v hv=>?_,fun o es ho=>?_,r.sep⟩
 ·obtain ⟨h1,h2,h3,h4⟩:=r.own o cs ho
  refine ⟨by rw [hs];exact h1,h2,fun i hi=>?_,fun i v hv=>?_⟩
  ·rw [ziW hr,zqu hr];exact h3 i hi
  ·obtain ⟨q,d,h5,h6⟩:=h4 i v hv
   exact ⟨q,d,by rw [ziW hr];exact h5,h6⟩
 ·obtain ⟨q,d,h5,h6⟩:=r.ro o cs ho i v hv
  exact ⟨q,d,by rw [ziW hr];exact h5,h6⟩
 ·obtain ⟨h1,ms,ck,h2,h3,h4⟩:=r.mp o es ho
  refine ⟨by rw [hs];exact h1,ms,ck,?_,h3,h4⟩
  rw [ZD]
  ·exact h2
  ·intro e
   rw [e,hr] at h2
   cases h2
theorem Tr.iter {μ h w μ1 h1 w1} (t:Tr μ h w μ1 h1 w1) {rb:Nat} {m s c m' s' c'} {se se':Array Nat} (hr:w1.heap[rb]? = some (.mapIter m s se c)) (hb:w.heap.size≤rb):Tr μ h w μ1 h1 (setBlock w1 rb (.mapIter m' s' se' c')):=by
 refine ⟨t.rel.iter hr,t.step,⟨t.keep.os,t.keep.tape,t.keep.output,?_,fun k hk hn=>?_,t.keep.drawn⟩,t.mine,t.has⟩
 ·have:(setBlock w1 rb (.mapIter m' s' se' c')).heap.size=w1.heap.size:=by simp [setBlock]
  rw [this];exact t.keep.size
 ·rw [ZD (by omega)];exact t.keep.block k hk hn
theorem Tr.alike {μ h w μ1 h1 w1 w2} (t:Tr μ h w μ1 h1 w1) (e:w2=w1∨w2=w1.drew):Tr μ h w μ1 h1 w2:=by
 rcases e with rfl | rfl
 ·exact t
 ·exact t.trans (Tr.drew t.rel)
theorem Rel.mine_lt {μ h w} (r:Rel μ h w) {b:Nat} (hm:Mine μ h b):b<w.heap.size:=by
 obtain ⟨o,t,m,e,hk,rfl⟩:=hm
 unfold inf at e
 split at e
 ·next cs ho=>exact (r.own o _ ho).1
 ·simp at e;omega
 ·next es ho=>exact (r.mp o _ ho).1
 ·simp at e;omega
 ·cases e
section
variable {P:Program} {T:Tab} {S:SatT}
theorem yH {o:Oper} {op:Op} {d:Nat} (h:vi o=some (op,d)):o.guard=none∧o.dst=some d∧o.op=op:=by
 unfold vi at h
 split at h
 ·next e1 e2=>
  simp at h
  obtain ⟨rfl,rfl⟩:=h
  exact ⟨e1,e2,rfl⟩
 ·cases h
theorem zNF {α β :Type} {f: α → β} {l:Array α} {a b c: β} (e:l.toList.map f=[a,b,c]):∃x y z,l = #[x,y,z]∧f x=a∧f y=b∧f z=c:=by
 obtain ⟨l⟩:=l
 match l,e with
 | [x,y,z],e=>simp at e;exact ⟨x,y,z,rfl,e.1,e.2.1,e.2.2⟩
 | [],e=>simp at e
 | [_],e=>simp at e
 | [_,_],e=>simp at e
 | _::_::_::_::_,e=>simp at e
theorem yU {ops:Array Oper} {Q:Exit→Act→World→Prop} {i:Nat} {rest:List Nat} {a:Act} {w:World} {o:Oper} {op:Op} {d:Nat} (ho:ops[i]? = some o) (hp:vi o=some (op,d))
  {s:Sem Value} (hs:execOp a.eval o=(do pure (.value (←s)))) {x:Value} {w':World} (hx:s.run P w = .ok x w') (hn:wpOps P ops Q rest (a.put (some d) x) w'):wpOps P ops Q (i::rest) a w:=by
 obtain ⟨hg,hd,_⟩:=yH hp
 simp only [wpOps,ho]
 rw [if_pos (by unfold Region.wanted;rw [hg])]
 have hok:OpOK P (execOp a.eval o) w (fun v w2=>v=x∧w2=w'):=by rw [hs];exact OpOK.val hx ⟨rfl,rfl⟩
 refine .inl (hok.upon fun v w2 hv=>?_)
 obtain ⟨rfl,rfl⟩:=hv
 rw [hd]
 exact hn
theorem yP {a:Act} {d:Nat} {x:Value} (h:d<a.tmps.size):(a.put (some d) x).tmps[d]? = some x:=by
 simp only [Act.put]
 rw [Array.getElem?_setIfInBounds,if_pos rfl,if_pos h]
theorem yp (a:Act) (d:Option Nat) (x:Value):(a.put d x).tmps.size=a.tmps.size:=by cases d <;> simp [Act.put]
theorem yB {a:Act} {d:Nat} {x:Value} (h:a.tmps[d]? = some x):a.eval (.tmp d)=x:=by
 show a.tmps.getD d undef=x
 rw [Array.getD_eq_getD_getElem?,h];rfl
theorem ziq {ρ :Operand→Value} {o:Oper} {it:Operand} {b:Bool} (h:o.op = .next it b):execOp ρ o=(do pure (.value (←Instr.next (ρ it) b o.type))):=by unfold execOp;rw [h]
theorem vT {ρ :Operand→Value} {o:Oper} {it:Operand} {b:Nat} (h:o.op = .extract it b):execOp ρ o=(do pure (.value (←Instr.extract (ρ it) b))):=by unfold execOp;rw [h]
theorem zpR {ρ :Operand→Value} {o:Oper} {it:Operand} (h:o.op = .entry it):execOp ρ o=(do pure (.value (←Instr.entry (ρ it)))):=by unfold execOp;rw [h]
theorem zpQ {ρ :Operand→Value} {o:Oper} {t:TypeId} {it:Operand} (h:o.op = .range t it):execOp ρ o=(do pure (.value (←Instr.range t (ρ it)))):=by unfold execOp;rw [h]
theorem zkV {ρ :Operand→Value} {o:Oper} {it:Operand} (h:o.op = .assign it):execOp ρ o=(do pure (.value (←(pure (ρ it):Sem Value)))):=by unfold execOp;rw [h];simp
theorem zir {ρ :Operand→Value} {o:Oper} {it:Operand} (h:o.op = .move it):execOp ρ o=(do pure (.value (←(pure (ρ it):Sem Value)))):=by unfold execOp;rw [h];simp
theorem VRs.put_clr {μ h} {fr:Frame} {a:Act} {d:Nat} {x:Value} (hf:VRs μ h fr a.tmps.toList):VRs μ h (fr.set d .undef) (a.put (some d) x).tmps.toList:=
 yY (d:=some d) (v:= .undef) hf (by simp only [VR])
theorem vH {μ h} {fr:Frame} {ds:List Value} (m:List Nat) (hf:VRs μ h fr ds):VRs μ h (mask m fr) ds:=by
 refine VRs.mk (by simp [mask,hf.len]) fun i v d h1 h2=>?_
 unfold mask at h1
 rw [List.getElem?_map,List.getElem?_zipIdx] at h1
 cases hq:fr[i]? with
 | none=>rw [hq] at h1;cases h1
 | some x=>
  rw [hq] at h1
  simp only [Option.map_some,Option.some.injEq,Nat.zero_add] at h1
  obtain ⟨d',h3,h4⟩:=hf.get hq
  rw [h2] at h3
  cases h3
  subst h1
  generalize m.contains i=b
  cases b
  ·simp [VR]
  ·exact h4
theorem zBv {es:Array MapEntry} {se:Array Nat} (h:(leftOf es se).size=0) {m:MapEntry} (hm:m∈es.toList):m.born∈se.toList:=by
 unfold leftOf at h
 have:Array.filter (fun e=> !se.contains e.born) es = #[]:=Array.eq_empty_of_size_eq_zero h
 rw [Array.filter_eq_empty_iff] at this
 have h2:=this m (by simpa using hm)
 simpa using h2
theorem zID {es:Array MapEntry} {se:Array Nat} {m:MapEntry} (h:m∈(leftOf es se).toList):m∈es.toList∧m.born ∉ se.toList:=by
 unfold leftOf at h
 simp at h
 exact ⟨by simpa using h.1,by simpa using h.2⟩
theorem zlu (hS:∀f args h v h2,S f args h v h2→Sat P f args h v h2) (hT:TOK P T) {p:RngP} {i2 i3 i4 ib:Nat} {o2 o3:Array Oper}
  (h2:o2.toList.map vi=[some (.next (.tmp p.d1) false,p.d2),some (.extract (.tmp p.d2) 0,p.d3)])
  (h3:o3.toList.map vi=[some (.entry (.tmp p.d1),p.d4),some (.extract (.tmp p.d4) 1,p.d5),some (.assign (.tmp p.d5),p.d6)])
  (h4:∀o∈p.ops.toList,∀d∈[p.d0,p.d1,p.d2,p.d3,p.d4,p.d5,p.d6],o.dst≠some d) (hnd:[p.d0,p.d1,p.d2,p.d3,p.d4,p.d5,p.d6].Nodup)
  {es:List (AVal×AVal)} {F:Frame→Prop} {μ :Mu} {h:H} {w:World} {rb r:Nat} {Q:Exit→Act→World→Prop} {df:List Deferred} (ho:h[r]? = some (.mp es)) (hrb:w.heap.size≤rb)
  (hQ:∀ μ1 w1 fr a,Tr μ h w μ1 h w1→VRs μ1 h fr a.tmps.toList→a.defers=df→F fr→Q (.exit p.bid) a w1):
  ∀(N:Nat) (seen:List Nat) (se:Array Nat) {μ1:Mu} {w1:World} {fr:Frame} {a:Act},Tr μ h w μ1 h w1→w1.heap[rb]? = some (.mapIter (some (μ r).b) es.length se es.length)→(∀i,i∈se.toList↔i∈seen)→¬Mine μ1 h rb→VRs μ1 h fr a.tmps.toList→
   a.tmps[p.d1]? = some (.pointer (some ⟨rb,0,none⟩))→(∀d∈[p.d0,p.d1,p.d2,p.d3,p.d4,p.d5,p.d6],d<a.tmps.size)→a.defers=df→zIm S T p es F h N seen fr→
   Code.rounds P (.seq (.region i2 o2 false) (.seq (.cond (.tmp p.d3) .skip (.exit p.bid)) (.block ib (.seq (.region i3 o3 false) (.region i4 p.ops false))))) Q N a w1
 | 0,seen,se,μ1,w1,fr,a,t,hi,hse,hm,hf,hd1,hds,hdf,hg=>hg.elim
 | N+1,seen,se,μ1,w1,fr,a,t,hi,hse,hmine,hf,hd1,hds,hdf,hg=>by
  obtain ⟨x1,x2,rfl,e1,e2⟩:=zqc h2
  obtain ⟨y1,y2,y3,rfl,f1,f2,f3⟩:=zNF h3
  have hmu: μ1 r = μ r:=by
   have hr0:inf h r=some (2,0):=by unfold inf;rw [ho]
   obtain ⟨t',n,g1,g2,g3,g4⟩:=t.step.same r 2 0 (wx hr0) hr0
   exact (g3 (by omega)).2
  obtain ⟨hb1,ms,ck,hb,⟨hms,hck⟩,hrel⟩:=t.rel.mp r es ho
  rw [hmu] at hb hb1
  subst hck
  have hborn:∀m∈ms.toList,∃i k v,es[i]? = some (k,v)∧ms[i]? = some m∧m.born=i∧VR μ1 h v m.val:=by
   intro m hm
   obtain ⟨i,hj,rfl⟩:=List.getElem_of_mem hm
   have hi':i<es.length:=by rw [Array.length_toList,hms] at hj;exact hj
   obtain ⟨m',q1,q2,q3,q4⟩:=hrel i (es[i]'hi').1 (es[i]'hi').2 (by rw [List.getElem?_eq_getElem hi'])
   have this:ms[i]? = some (ms.toList[i]'hj):=by rw [←Array.getElem?_toList,List.getElem?_eq_getElem hj]
   rw [this] at q1
   cases q1
   exact ⟨i,(es[i]'hi').1,(es[i]'hi').2,by rw [List.getElem?_eq_getElem hi'],this,q2,q4⟩
  simp only [List.mem_cons,List.not_mem_nil,or_false,forall_eq_or_imp,forall_eq] at hds
  obtain ⟨b0,b1,b2,b3,b4,b5,b6⟩:=hds
  simp only [List.nodup_cons,List.mem_cons,List.not_mem_nil,or_false,not_or,not_false_eq_true,List.nodup_nil,and_true] at hnd
  obtain ⟨⟨n01,n02,n03,n04,n05,n06⟩,⟨n12,n13,n14,n15,n16⟩,⟨n23,n24,n25,n26⟩,⟨n34,n35,n36⟩,⟨n45,n46⟩,n56⟩:=hnd
  rw [rounds_succ]
  refine wp_seq (wp_region ?_)
  show wpOps P #[x1,x2] _ [0,1] a w1
  obtain ⟨_,_,p1⟩:=yH e1
  obtain ⟨_,_,p2⟩:=yH e2
  have hev1:a.eval (.tmp p.d1) = .pointer (some ⟨rb,0,none⟩):=yB hd1
  rcases run_next_at (P:=P) w1 x1.type rb (μ r).b es.length es.length se ms es.length hi hb (fun m hm=>by
   obtain ⟨i,k,v,h1,h2,h3,_⟩:=hborn m hm
   rw [h3]
   rcases Nat.lt_or_ge i es.length with hl | hl
   ·exact hl
   ·rw [List.getElem?_eq_none hl] at h1;cases h1) (Nat.le_refl _) with ⟨hz,hrun⟩ | ⟨m,hm,w2,hal,hrun⟩
  ·refine yU rfl e1 (ziq p1) (by rw [hev1];exact hrun) ?_
   refine yU rfl e2 (vT p2) (x:= .bool false) (w':=w1) (by rw [yB (yP b2)];rfl) ?_
   refine wp_seq (wp_cond_false (yB (yP (by rw [yp];exact b3))) (wp_exit ?_))
   show Q (.exit p.bid) _ w1
   refine hQ μ1 w1 (clr [p.d2,p.d3] (mask p.mm fr)) _ t ?_ (by rw [zP,zP];exact hdf) (hg.1 fun i hi=>?_)
   ·exact VRs.put_clr (VRs.put_clr (vH p.mm hf))
   ·obtain ⟨m,q1,q2,q3,q4⟩:=hrel i es[i].1 es[i].2 (by rw [List.getElem?_eq_getElem hi])
    rw [←hse,←q2]
    refine zBv hz ?_
    have:=Array.mem_of_getElem? q1
    simpa using this
  ·obtain ⟨hmem,hnot⟩:=zID hm
   obtain ⟨i,k,v,g1,g2,g3,g4⟩:=hborn m hmem
   refine yU rfl e1 (ziq p1) (by rw [hev1];exact hrun) ?_
   generalize hw3:setBlock w2 rb (.mapIter (some (μ r).b) es.length (se.push m.born) es.length)=w3
   have hi2:w2.heap[rb]? = some (.mapIter (some (μ r).b) es.length se es.length):=by rcases hal with rfl | rfl <;> exact hi
   have t3:Tr μ h w μ1 h w3:=by rw [←hw3];exact (t.alike hal).iter hi2 hrb
   have hi3:w3.heap[rb]? = some (.mapIter (some (μ r).b) es.length (se.push m.born) es.length):=by rw [←hw3];exact ziV hi2
   have hb3:w3.heap[(μ r).b]? = some (.map ms es.length):=by
    rw [←hw3,ZD]
    ·rcases hal with rfl | rfl <;> exact hb
    ·intro e;rw [e,hi] at hb;cases hb
   refine yU rfl e2 (vT p2) (x:= .bool true) (w':=w3) (by rw [yB (yP b2)];rfl) ?_
   refine wp_seq (wp_cond_true (yB (yP (by rw [yp];exact b3))) (wp_skip ?_))
   refine wp_block (wp_seq (wp_region ?_))
   show wpOps P #[y1,y2,y3] _ [0,1,2] _ w3
   obtain ⟨_,_,r1⟩:=yH f1
   obtain ⟨_,_,r2⟩:=yH f2
   obtain ⟨_,_,r3⟩:=yH f3
   have hev2:((a.put (some p.d2) (.tuple #[.bool true,m.key,m.val])).put (some p.d3) (.bool true)).eval (.tmp p.d1) = .pointer (some ⟨rb,0,none⟩):=by
    refine yB ?_
    rw [zS (by simpa using fun e=>n13 e.symm),zS (by simpa using fun e=>n12 e.symm)]
    exact hd1
   refine yU rfl f1 (zpR r1) (by
    rw [hev2]
    refine run_entry_at (P:=P) w3 rb (μ r).b es.length se ms es.length m hi3 hb3 hmem ?_
    have:ms.toList.map (·.born)=List.range es.length:=by
     apply List.ext_getElem
     ·simp [hms]
     ·intro j h1 h2
      simp only [List.getElem_map,List.getElem_range]
      have hj:j<es.length:=by simpa using h2
      obtain ⟨m',q1,q2,_⟩:=hrel j (es[j]'hj).1 (es[j]'hj).2 (by rw [List.getElem?_eq_getElem hj])
      have hjm:j<ms.toList.length:=by rw [Array.length_toList,hms];exact hj
      have this:ms[j]? = some (ms.toList[j]'hjm):=by rw [←Array.getElem?_toList,List.getElem?_eq_getElem hjm]
      rw [this] at q1
      cases q1
      exact q2
    rw [this]
    exact List.nodup_range) ?_
   refine yU rfl f2 (vT r2) (x:=m.val) (w':=w3) (by rw [yB (yP (by rw [yp,yp];exact b4))];rfl) ?_
   refine yU rfl f3 (zkV r3) (x:=m.val) (w':=w3) (by rw [yB (yP (by rw [yp,yp,yp];exact b5))];rfl) ?_
   show (Code.region i4 p.ops false).wp P _ _ w3
   generalize ha2:((((a.put (some p.d2) (.tuple #[.bool true,m.key,m.val])).put (some p.d3) (.bool true)).put (some p.d4) (.tuple #[m.key,m.val])).put (some p.d5) m.val).put (some p.d6) m.val=a2
   have hf2:VRs μ1 h ((clr [p.d2,p.d3,p.d4,p.d5] (mask p.mm fr)).set p.d6 v) a2.tmps.toList:=by
    rw [←ha2]
    refine yY (d:=some p.d6) (v:=v) ?_ g4
    exact VRs.put_clr (VRs.put_clr (VRs.put_clr (VRs.put_clr (vH p.mm hf))))
   have hsz:a2.tmps.size=a.tmps.size:=by rw [←ha2];simp only [yp]
   have hd12:a2.tmps[p.d1]? = some (.pointer (some ⟨rb,0,none⟩)):=by
    rw [←ha2,zS (by simpa using fun e=>n16 e.symm),zS (by simpa using fun e=>n15 e.symm),zS (by simpa using fun e=>n14 e.symm),zS (by simpa using fun e=>n13 e.symm),zS (by simpa using fun e=>n12 e.symm)]
    exact hd1
   have hdf2:a2.defers=df:=by rw [←ha2];simp only [zP];exact hdf
   have hgo:=hg.2 i k v g1 (fun e=>hnot (by rw [g3];exact (hse i).2 e))
   refine wp_region ?_
   rw [List.range_eq_range',←Array.length_toList]
   refine wq hS hT p.ops.toList 0 rfl t3.rel hf2 hgo fun μ4 h4' w4 fr4 a4 t4 f4 d4 keep ⟨hh,hk⟩=>?_
   subst hh
   have hget:∀d,d∈[p.d0,p.d1,p.d2,p.d3,p.d4,p.d5,p.d6]→a4.tmps[d]? = a2.tmps[d]? :=fun d hd=>keep d fun o ho'=>h4 o ho' d hd
   have hsz4:∀d,d∈[p.d0,p.d1,p.d2,p.d3,p.d4,p.d5,p.d6]→d<a.tmps.size→d<a4.tmps.size:=fun d hd hlt=>by
    have:=hget d hd
    rw [Array.getElem?_eq_getElem (show d<a2.tmps.size by rw [hsz];exact hlt)] at this
    exact (Array.getElem?_eq_some_iff.1 this).1
   refine zlu hS hT h2 h3 h4 (by simp only [List.nodup_cons,List.mem_cons,List.not_mem_nil,or_false,not_or,not_false_eq_true,List.nodup_nil,and_true];exact ⟨⟨n01,n02,n03,n04,n05,n06⟩,⟨n12,n13,n14,n15,n16⟩,⟨n23,n24,n25,n26⟩,⟨n34,n35,n36⟩,⟨n45,n46⟩,n56⟩) ho hrb hQ N (i::seen) (se.push m.born) (t3.trans t4) ?_ ?_ ?_ f4 ?_ ?_ (d4.trans hdf2) hk
   ·rw [←hi3]
    exact t4.keep.block rb (by
     rcases Nat.lt_or_ge rb w3.heap.size with hl | hl
     ·exact hl
     ·rw [Array.getElem?_eq_none hl] at hi3;cases hi3) hmine
   ·intro j
    rw [Array.toList_push,List.mem_append,List.mem_cons,hse,g3]
    simp [or_comm]
   ·intro hc
    rcases t4.mine rb hc with hc | hc
    ·exact hmine hc
    ·rw [Array.getElem?_eq_none hc] at hi3;cases hi3
   ·rw [hget p.d1 (by simp),hd12]
   ·intro d hd
    refine hsz4 d hd ?_
    simp only [List.mem_cons,List.not_mem_nil,or_false] at hd
    rcases hd with rfl | rfl | rfl | rfl | rfl | rfl | rfl <;> assumption
theorem zqB (hS:∀f args h v h2,S f args h v h2→Sat P f args h v h2) (hT:TOK P T) {L:List Nat} {c b:Code} {K:Int→H→Prop} {fr:Frame} {h:H} {μ :Mu} {w:World} {a:Act} {Q:Exit→Act→World→Prop}
  (hK:zqI S T L c b K fr h) (t:Rel μ h w) (hf:VRs μ h fr a.tmps.toList)
  (hQ:∀n μ1 w1 a1,K n h→Tr μ h w μ1 h w1→VRs μ1 h (mask L.tail (fr.set (L.headD 0) (.int .i64 n))) a1.tmps.toList→a1.defers=a.defers→Q .normal a1 w1):(Code.seq c b).wp P Q a w:=by
 obtain ⟨p,r,es,n,⟨hty,hnd,i1,i2,i3,i4,ib,o1,o2,o3,rfl,rfl,h1,h2,h3,h4⟩,hds,hx,ho,⟨N,hg⟩,hk⟩:=hK
 obtain ⟨x1,x2,rfl,e1,e2⟩:=zqc h1
 obtain ⟨_,_,p1⟩:=yH e1
 obtain ⟨_,_,p2⟩:=yH e2
 have hlen:fr.length=a.tmps.size:=by rw [←hf.len,Array.length_toList]
 have hds':∀d∈[p.d0,p.d1,p.d2,p.d3,p.d4,p.d5,p.d6],d<a.tmps.size:=fun d hd=>by rw [←hlen];exact hds d hd
 have hev:=yJ hf p.x
 rw [hx] at hev
 simp only [VR,MR] at hev
 obtain ⟨hin,q,hq,hq2⟩:=hev
 have hr0:inf h r=some (2,0):=by unfold inf;rw [ho]
 obtain rfl:=hq2 0 hr0
 obtain ⟨hb1,ms,ck,hb,⟨hms,hck⟩,hrel⟩:=t.mp r es ho
 subst hck
 have n01:p.d0≠p.d1:=fun e=>by simp [e] at hnd
 refine wp_seq (wp_region ?_)
 show wpOps P #[x1,x2] _ [0,1] a w
 refine yU rfl e1 (zir p1) (x:= .map (some (μ r).b)) (w':=w) (by rw [hq];rfl) ?_
 have ht:∃k e,P.underlying p.ty=some (.map k e):=by
  split at hty
  ·next kt e he=>
   obtain ⟨td⟩:=hT.told p.ty (by rw [he];simp)
   have this:=td.td
   rw [he] at this
   have hd:=td.hd
   generalize td.d=dd at this hd
   cases dd with
   | map k2 e2=>exact ⟨_,_,hd⟩
   | struct fs=>
    simp only [tdOf] at this
    generalize fs.toList.all _=bb at this
    cases bb <;> simp at this
   | _=>simp [tdOf] at this
  ·exact hty.elim
 obtain ⟨kt,et,ht⟩:=ht
 refine yU rfl e2 (zpQ p2) (x:= .pointer (some ⟨w.heap.size,0,none⟩)) (w':=w.alloc (.mapIter (some (μ r).b) es.length #[] es.length)) ?_ ?_
 ·rw [yB (yP (hds' p.d0 (by simp)))]
  exact run_range_map w p.ty kt et (μ r).b ms es.length ht hb
 show (Code.block p.bid _).wp P _ _ _
 generalize ha2:(a.put (some p.d0) (.map (some (μ r).b))).put (some p.d1) (.pointer (some ⟨w.heap.size,0,none⟩))=a2
 have hsz:a2.tmps.size=a.tmps.size:=by rw [←ha2];simp only [yp]
 refine wp_block (wp_loop_rounds N ?_)
 refine zlu hS hT h2 h3 h4 hnd ho (Nat.le_refl _) (F:=fun fr2=>mask L.tail fr2=mask L.tail (fr.set (L.headD 0) (.int .i64 n))) (df:=a.defers) (μ := μ) (w:=w) ?_ N [] #[] (μ1:= μ) (Tr.extra t _) (heap_alloc_new _ _) (by simp) ?_ (fr:=clr [p.d0,p.d1] fr) ?_ ?_ ?_ ?_ hg
 ·intro μ1 w1 fr1 a1 t1 hf1 hd1 hF
  show Exit.inBlock p.bid Q (.exit p.bid) a1 w1
  simp only [Exit.inBlock,if_true]
  refine hQ n μ1 w1 a1 hk t1 ?_ hd1
  rw [←hF]
  exact vH _ hf1
 ·intro hc
  have:=t.mine_lt hc
  omega
 ·rw [←ha2]
  exact VRs.put_clr (VRs.put_clr hf)
 ·rw [←ha2]
  exact yP (by rw [yp];exact hds' p.d1 (by simp))
 ·intro d hd
  rw [hsz];exact hds' d hd
 ·rw [←ha2];simp only [zP]
end
end Go.Proofs.YtlcgclmobfdbcaaGreat.Cl
set_option linter.unusedVariables false
set_option linter.unusedSimpArgs false
namespace Go.Proofs.YtlcgclmobfdbcaaGreat.Cl
open Go
section
variable {P:Program} {T:Tab} {S:SatT}
theorem zlp:∀{l m:List Stp},Sims l m→∀b∈m,∃a∈l,Sim a b
 | [],[],_,b,hb=>by simp at hb
 | a::l,b'::m,h,b,hb=>by
  rcases List.mem_cons.1 hb with rfl | hb
  ·exact ⟨a,by simp,h.1⟩
  ·obtain ⟨a',h1,h2⟩:=zlp h.2 b hb
   exact ⟨a',by simp [h1],h2⟩
 | [],_::_,h,_,_=>h.elim
 | _::_,[],h,_,_=>h.elim
theorem Xe {β :Type} (f:Nat→ β):∀{l m:List Stp},Sims l m→l.map (fun s=>f s.i)=m.map (fun s=>f s.i)
 | [],[],_=>rfl
 | a::l,b::m,h=>by simp [h.1.i,Xe f h.2]
 | [],_::_,h=>h.elim
 | _::_,[],h=>h.elim
theorem zpP (hS:∀f args h v h2,S f args h v h2→Sat P f args h v h2) (hT:TOK P T) {ops:Array Oper} (hok:okD ops.toList (befs ops.toList [])=true) {Q:Exit→Act→World→Prop} {fr2:Frame} {h2:H}:
  ∀(fuel t:Nat) (listed:Array Bool) (L:List Stp) {fr:Frame} {h:H} {μ :Mu} {w:World} {a:Act},L.length≤fuel→Val S T ops.toList fr h L fr2 h2→(∀s∈L,ops[s.i]? = some s.o)→
   (L.map (·.i)).Pairwise (fun x y=>x≠y∧bef (befs ops.toList []) x y=false)→(∀x∈L,∀y∈L,Both S T (befs ops.toList []) x y)→listed.size=ops.size→
   (∀i,i<ops.size→(listed[i]? = some false↔∃s∈L,s.i=i))→(∀j x,listed[j]? = some true→bef (befs ops.toList []) j x=true→listed[x]? = some true)→
   Rel μ h w→VRs μ h fr a.tmps.toList→(∀ μ' w' a',Tr μ h w μ' h2 w'→VRs μ' h2 fr2 a'.tmps.toList→a'.defers=a.defers→Q .normal a' w')→
   wpOps P ops Q (Region.linearise.go .any ops fuel t listed []) a w:=by
 obtain ⟨hdeps,hpair⟩:=zcs hok
 intro fuel
 induction fuel with
 | zero=>
  intro t listed L fr h μ w a hlen hV _ _ _ _ _ _ r hf hQ
  have:L=[]:=List.length_eq_zero_iff.1 (by omega)
  subst this
  cases hV
  exact hQ μ w a (Tr.refl r) hf rfl
 | succ fuel ih=>
  intro t listed L fr h μ w a hlen hV hops hpw hboth hsz hlist hdown r hf hQ
  unfold Region.linearise.go
  simp only
  generalize hrs:((List.range ops.size).filter fun i=> !listed.getD i true&&((ops[i]?).map (·.after.all fun e=> !Region.binds .any e||listed.getD e.on false)).getD false)=rs
  have hmem:∀i,i∈rs↔i<ops.size∧listed[i]? = some false∧∃o,ops[i]? = some o∧∀d∈deps o,listed[d]? = some true:=by
   intro i
   rw [←hrs,List.mem_filter,List.mem_range,Bool.and_eq_true]
   constructor
   ·rintro ⟨h1,h2,h3⟩
    refine ⟨h1,?_,?_⟩
    ·rw [Array.getD_eq_getD_getElem?,Array.getElem?_eq_getElem (by omega)] at h2
     rw [Array.getElem?_eq_getElem (by omega)]
     simpa using h2
    ·cases ho:ops[i]? with
     | none=>rw [ho] at h3;simp at h3
     | some o=>
      rw [ho] at h3
      simp only [Option.map_some,Option.getD_some,Array.all_eq_true'] at h3
      refine ⟨o,rfl,fun d hd=>?_⟩
      unfold deps at hd
      rw [List.mem_map] at hd
      obtain ⟨e,he,rfl⟩:=hd
      rw [List.mem_filter] at he
      have:=h3 e (by simpa using he.1)
      rw [he.2] at this
      simp only [Bool.not_true,Bool.false_or] at this
      rw [Array.getD_eq_getD_getElem?] at this
      cases hq:listed[e.on]? with
      | none=>rw [hq] at this;simp at this
      | some b=>rw [hq] at this;simp at this;rw [this]
   ·rintro ⟨h1,h2,o,ho,h3⟩
    refine ⟨h1,?_,?_⟩
    ·rw [Array.getD_eq_getD_getElem?,h2];rfl
    ·rw [ho]
     simp only [Option.map_some,Option.getD_some,Array.all_eq_true']
     intro e he
     cases hb:Region.binds .any e with
     | false=>rfl
     | true=>
      have:=h3 e.on (by unfold deps;exact List.mem_map_of_mem (List.mem_filter.2 ⟨by simpa using he,hb⟩))
      rw [Array.getD_eq_getD_getElem?,this]
      rfl
  split
  ·next i hi=>
   rw [zlW]
   simp only [List.reverse_cons,List.reverse_nil,List.nil_append,List.cons_append]
   obtain ⟨hi1,hi2,o,ho,hi3⟩:=(hmem i).1 (List.mem_of_getElem? hi)
   obtain ⟨s,hs,hsi⟩:=(hlist i hi1).1 hi2
   obtain ⟨pre,post,rfl⟩:=List.append_of_mem hs
   have hso:s.o=o:=by
    have:=hops s hs
    rw [hsi,ho] at this
    cases this
    rfl
   rw [List.map_append,List.map_cons,List.pairwise_append] at hpw
   obtain ⟨hp1,hp2,hp3⟩:=hpw
   have hap:∀x∈pre,zEG ops.toList (befs ops.toList []) x s∧Both S T (befs ops.toList []) x s∧Both S T (befs ops.toList []) s x:=by
    intro x hx
    have hxl:x∈pre++s::post:=by simp [hx]
    obtain ⟨hne,hb1⟩:=hp3 x.i (List.mem_map_of_mem hx) s.i (by simp)
    have hxo:=hops x hxl
    have hxlt:x.i<ops.size:=(Array.getElem?_eq_some_iff.1 hxo).1
    have hxun:=(hlist x.i hxlt).2 ⟨x,hxl,rfl⟩
    have hb2:bef (befs ops.toList []) s.i x.i=false:=by
     cases hb:bef (befs ops.toList []) s.i x.i with
     | false=>rfl
     | true=>
      rw [hsi] at hb
      obtain ⟨d,hd,h1⟩:=(w8 hdeps (by rw [Array.getElem?_toList];exact ho) x.i).1 hb
      have hl:=hi3 d hd
      rcases h1 with rfl | h1
      ·rw [hl] at hxun;cases hxun
      ·have:=hdown d x.i hl h1
       rw [this] at hxun;cases hxun
    have hun:zK (befs ops.toList []) x.i s.i=true:=by unfold zK;rw [hb1,hb2];rfl
    have hst:ops[s.i]? = some s.o:=hops s hs
    have key:(¬(zz x.o.op=true∧zz s.o.op=true))∧(∀d,x.o.dst=some d→d ∉ xp ops.toList s.o)∧(∀d,s.o.dst=some d→d ∉ xp ops.toList x.o)∧∀d e,x.o.dst=some d→s.o.dst=some e→d≠e:=by
     rcases Nat.lt_or_gt_of_ne hne with hlt | hlt
     ·obtain ⟨h1,h2⟩:=hpair x.i s.i x.o s.o (by rw [Array.getElem?_toList];exact hxo) (by rw [Array.getElem?_toList];exact hst) hlt
      unfold YV at h1
      rw [hb2] at h1
      rw [Bool.false_or,Bool.and_eq_true,Bool.and_eq_true] at h1
      obtain ⟨⟨h3,h4⟩,h5⟩:=h1
      refine ⟨fun hh=>by (rw [hh.1,hh.2] at h3;cases h3),fun d hd=>?_,fun d hd=>?_,fun d e hd he=>?_⟩
      ·rw [hd] at h4;simpa using h4
      ·rw [hd] at h5;simpa using h5
      ·unfold wA at h2;rw [hd,he] at h2;simpa using h2
     ·obtain ⟨h1,h2⟩:=hpair s.i x.i s.o x.o (by rw [Array.getElem?_toList];exact hst) (by rw [Array.getElem?_toList];exact hxo) hlt
      unfold YV at h1
      rw [hb1] at h1
      rw [Bool.false_or,Bool.and_eq_true,Bool.and_eq_true] at h1
      obtain ⟨⟨h3,h4⟩,h5⟩:=h1
      refine ⟨fun hh=>by (rw [hh.1,hh.2] at h3;cases h3),fun d hd=>?_,fun d hd=>?_,fun d e hd he=>?_⟩
      ·rw [hd] at h5;simpa using h5
      ·rw [hd] at h4;simpa using h4
      ·unfold wA at h2;rw [hd,he] at h2;intro hde;rw [hde] at h2;simp at h2
    exact ⟨⟨hun,key.1,key.2.1,key.2.2.1,key.2.2.2⟩,hboth x hxl s hs,hboth s hs x hxl⟩
   obtain ⟨pre',s',q1,q2,q3⟩:=zMc pre hV hap
   have hso':s'.o=o:=by rw [←q2.o,hso]
   have hlen':pre'.length=pre.length:=by have:=congrArg List.length (Xe (fun i=>i) q1);simpa using this.symm
   -- the rest
   have hrest:∀{fr':Frame} {h':H} {μ':Mu} {w':World} {a':Act},Val S T ops.toList fr' h' (pre'++post) fr2 h2→Tr μ h w μ' h' w'→VRs μ' h' fr' a'.tmps.toList→a'.defers=a.defers→
     wpOps P ops Q (Region.linearise.go .any ops fuel (t/rs.length) (listed.setIfInBounds i true) []) a' w':=by
    intro fr' h' μ' w' a' hV' ht hf' hd'
    have hmemL:∀y∈pre'++post,∃x∈pre++s::post,Sim x y∧x.i≠i:=by
     intro y hy
     rcases List.mem_append.1 hy with hy | hy
     ·obtain ⟨x,hx,hxy⟩:=zlp q1 y hy
      exact ⟨x,by simp [hx],hxy,by rw [←hsi];exact (hp3 x.i (List.mem_map_of_mem hx) s.i (by simp)).1⟩
     ·exact ⟨y,by simp [hy],Sim.refl y,by rw [←hsi];exact Ne.symm ((List.pairwise_cons.1 hp2).1 y.i (List.mem_map_of_mem hy)).1⟩
    refine ih (t/rs.length) (listed.setIfInBounds i true) (pre'++post) (by simp at hlen ⊢;omega) hV' ?_ ?_ ?_ (by simpa using hsz) ?_ ?_ ht.rel hf' fun μ2 w2 a2 t2 f2 d2=>hQ μ2 w2 a2 (ht.trans t2) f2 (d2.trans hd')
    ·intro y hy
     obtain ⟨x,hx,hxy,_⟩:=hmemL y hy
     have:=hops x hx
     rw [hxy.i,hxy.o] at this
     exact this
    ·rw [List.map_append,←Xe (fun i=>i) q1,List.pairwise_append]
     exact ⟨hp1,(List.pairwise_cons.1 hp2).2,fun x hx y hy=>hp3 x hx y (by simp at hy ⊢;exact .inr hy)⟩
    ·intro x hx y hy
     obtain ⟨x',hx',sx,_⟩:=hmemL x hx
     obtain ⟨y',hy',sy,_⟩:=hmemL y hy
     exact (hboth x' hx' y' hy').sim sx sy
    ·intro k hk
     rw [Array.getElem?_setIfInBounds]
     by_cases hki:i=k
     ·subst hki
      rw [if_pos rfl,if_pos (by omega)]
      constructor
      ·intro e;cases e
      ·rintro ⟨y,hy,rfl⟩
       obtain ⟨x,_,sx,hxi⟩:=hmemL y hy
       exact absurd sx.i hxi
     ·rw [if_neg hki,hlist k hk]
      constructor
      ·rintro ⟨x,hx,rfl⟩
       rcases List.mem_append.1 hx with hx | hx
       ·have:x.i∈pre'.map (fun s=>s.i):=by rw [←Xe (fun i=>i) q1];exact List.mem_map_of_mem hx
        obtain ⟨y,hy,hyx⟩:=List.mem_map.1 this
        exact ⟨y,by simp [hy],hyx⟩
       ·rcases List.mem_cons.1 hx with rfl | hx
        ·exact absurd hsi.symm hki
        ·exact ⟨x,by simp [hx],rfl⟩
      ·rintro ⟨y,hy,rfl⟩
       obtain ⟨x,hx,sx,_⟩:=hmemL y hy
       exact ⟨x,hx,sx.i⟩
    ·intro j x hj hjx
     rw [Array.getElem?_setIfInBounds] at hj ⊢
     by_cases hix:i=x
     ·subst hix;rw [if_pos rfl,if_pos (by omega)]
     ·rw [if_neg hix]
      by_cases hij:i=j
      ·subst hij
       obtain ⟨d,hd,h1⟩:=(w8 hdeps (by rw [Array.getElem?_toList];exact ho) x).1 hjx
       have hl:=hi3 d hd
       rcases h1 with rfl | h1
       ·exact hl
       ·exact hdown d x hl h1
      ·rw [if_neg hij] at hj
       exact hdown j x hj hjx
   simp only [wpOps,ho]
   cases q3 with
   | cons k1 k2 k3 k4 k5=>
    rw [hso'] at k2 k3 k4 k5
    cases hex:s'.ex with
    | true=>
     obtain ⟨hg,hop⟩:=k3 hex
     have hw:Region.wanted o (yielded ops a.tmps)=true:=by
      unfold gOK at hg
      unfold Region.wanted
      cases hgd:o.guard with
      | none=>rfl
      | some g=>
       obtain ⟨j,want⟩:=g
       rw [hgd] at hg
       obtain ⟨d,hd,he⟩:=hg
       rw [←w9 k2 hgd hd] at he
       obtain ⟨x,hx1,hx2,hx3⟩:=yr hf hd he (by simp)
       simp only [VR] at hx2
       subst hx2
       simp [hx3]
     rw [if_pos hw]
     rw [k1,←XS (zgr k2)] at hop
     refine .inl ((wu hS hT r hf hop).upon fun x w' ⟨v,h',μ',⟨e1,e2⟩,t2,v2⟩=>?_)
     subst e1 e2
     exact hrest k5 t2 (yY (VRs.step t2.step hf) v2) (zP _ _ _)
    | false=>
     obtain ⟨hg,hv,hh⟩:=k4 hex
     have hw:Region.wanted o (yielded ops a.tmps)=false:=by
      unfold gNo at hg
      unfold Region.wanted
      cases hgd:o.guard with
      | none=>rw [hgd] at hg;exact hg.elim
      | some g=>
       obtain ⟨j,want⟩:=g
       rw [hgd] at hg
       obtain ⟨d,hd,he⟩:=hg
       rw [←w9 k2 hgd hd] at he
       rcases he with he | he
       ·obtain ⟨x,hx1,hx2,hx3⟩:=yr hf hd he (by simp)
        simp only [VR] at hx2
        subst hx2
        cases want <;> simp [hx3]
       ·obtain ⟨x,hx1,hx2,hx3⟩:=yr hf hd he (by simp)
        simp only [VR] at hx2
        subst hx2
        simp [hx3]
     rw [if_neg (by rw [hw];simp)]
     rw [hv,hh,k1] at k5
     exact hrest k5 (Tr.refl r) (yY (v:= .gone) (x:=undef) hf (by simp only [VR];rfl)) (zP _ _ _)
  ·next hno=>
   cases L with
   | nil=>
    cases hV
    exact hQ μ w a (Tr.refl r) hf rfl
   | cons s L=>
    exfalso
    have hs:=hops s (by simp)
    have hlt:s.i<ops.size:=(Array.getElem?_eq_some_iff.1 hs).1
    have hin:s.i∈rs:=(hmem s.i).2 ⟨hlt,(hlist s.i hlt).2 ⟨s,by simp,rfl⟩,s.o,hs,fun d hd=>by
     have hd1:=hdeps s.i s.o (by rw [Array.getElem?_toList];exact hs) d hd
     have hb:bef (befs ops.toList []) s.i d=true:=(w8 hdeps (by rw [Array.getElem?_toList];exact hs) d).2 ⟨d,hd,.inl rfl⟩
     have hdl:d<ops.size:=by omega
     cases hq:listed[d]? with
     | none=>rw [Array.getElem?_eq_none_iff] at hq;omega
     | some b=>
      cases b with
      | true=>rfl
      | false=>
       obtain ⟨y,hy,rfl⟩:=(hlist d hdl).1 hq
       rcases List.mem_cons.1 hy with rfl | hy
       ·omega
       ·have:=(List.pairwise_cons.1 hpw).1 y.i (List.mem_map_of_mem hy)
        rw [this.2] at hb
        cases hb⟩
    have hpos:0<rs.length:=List.length_pos_of_mem hin
    rw [List.getElem?_eq_getElem (Nat.mod_lt _ hpos)] at hno
    cases hno
theorem zaZ (hS:∀f args h v h2,S f args h v h2→Sat P f args h v h2) (hT:TOK P T) (hmix:P.follows .mixedOrders=true) {ops:Array Oper} {k:Frame→H→Prop} {Q:Exit→Act→World→Prop} {μ :Mu} {h:H} {w:World} {fr:Frame} {a:Act}
  (r:Rel μ h w) (hf:VRs μ h fr a.tmps.toList) (l:List (Oper×Nat)) (hlz:∀p∈l,ops.toList[p.2]? = some p.1) (hoE:okE ops.toList (befs ops.toList []) l=true) (hD:vp ops.toList.length h fun h1=>yo S T ops.toList (befs ops.toList []) h.length l [] [] k fr h1)
  (hQ:∀ μ' h' w' fr' a',Tr μ h w μ' h' w'→VRs μ' h' fr' a'.tmps.toList→a'.defers=a.defers→k fr' h'→Q .normal a' w') (t:Nat):
  wpOps P ops Q (Region.schedule (P.follows .mixedOrders) ops t) a w:=by
 unfold vp at hD
 unfold okE at hoE
 simp only [Bool.and_eq_true] at hoE
 obtain ⟨⟨⟨hE1,hE2⟩,hE3⟩,hE4⟩:=hoE
 have hdeps:∀(p:Nat) o,ops.toList[p]? = some o→∀d∈deps o,d<p:=fun p o ho d hd=>by
  rw [List.all_eq_true] at hE1
  have:=hE1 (o,p) (List.mem_of_getElem? (by rw [List.getElem?_zipIdx,ho];simp:ops.toList.zipIdx[p]? = some (o,p)))
  rw [List.all_eq_true] at this
  simpa using this d hd
 have hll:∀p∈l,p.2<ops.toList.length:=fun p hp=>(List.getElem?_eq_some_iff.1 (hlz p hp)).1
 have t1:=Tr.deads ops.toList.length r
 obtain ⟨L,fr2,h2,q1,q2,q3,q4,q5,_,_⟩:=znd hS hT l [] [] fr _ hll (wS _ hE4) (fun e he=>by simp at he) trivial (by simp)
  (fun p hp _=>by rw [List.getElem?_append_right (by omega),Nat.add_sub_cancel_left,List.getElem?_replicate,if_pos (hll p hp)]) ⟨μ,w,_,t1,hf.step t1.step⟩ hD
 have hLi:∀s∈L,(s.o,s.i)∈l:=fun s hs=>by rw [←q3];exact List.mem_map.2 ⟨s,hs,rfl⟩
 rw [hmix]
 unfold Region.schedule
 simp only [Bool.true_or,if_true]
 unfold Region.linearise
 refine zAq hT hdeps ops.size t _ L ?_ q1 ?_ (by rw [q3];exact wS _ hE4) q5 (by simpa using q4) (by simp) ?_ ?_ t1 (hf.step t1.step) fun μ' w' a' t' f' d'=>hQ μ' h2 w' fr2 a' t' f' d' q2
 ·have:=congrArg List.length q3
  have h3:l.length=ops.toList.length:=by simpa using hE2
  simp at this h3
  omega
 ·intro s hs
  have:=hlz _ (hLi s hs)
  rwa [Array.getElem?_toList] at this
 ·intro i hi
  rw [Array.getElem?_replicate,if_pos hi]
  refine ⟨fun _=>?_,fun _=>rfl⟩
  rw [List.all_eq_true] at hE3
  have:=hE3 i (by simpa using hi)
  rw [List.any_eq_true] at this
  obtain ⟨p,hp,e⟩:=this
  rw [←q3] at hp
  obtain ⟨s,hs,rfl⟩:=List.mem_map.1 hp
  exact ⟨s,hs,by simpa using e⟩
 ·intro j x hj
  rw [Array.getElem?_replicate] at hj
  split at hj <;> cases hj
theorem zkY (hS:∀f args h v h2,S f args h v h2→Sat P f args h v h2) (hT:TOK P T) (hmix:P.follows .mixedOrders=true) {ops:Array Oper} {k:Frame→H→Prop} {Q:Exit→Act→World→Prop} {μ :Mu} {h:H} {w:World} {fr:Frame} {a:Act}
  (r:Rel μ h w) (hf:VRs μ h fr a.tmps.toList) (hD:zkZ S T ops.toList k fr h)
  (hQ:∀ μ' h' w' fr' a',Tr μ h w μ' h' w'→VRs μ' h' fr' a'.tmps.toList→a'.defers=a.defers→k fr' h'→Q .normal a' w') (t:Nat):
  wpOps P ops Q (Region.schedule (P.follows .mixedOrders) ops t) a w:=by
 have hz:∀p∈ops.toList.zipIdx,ops.toList[p.2]? = some p.1:=fun p hp=>by
  obtain ⟨n,hn,rfl⟩:=List.mem_iff_getElem.1 hp
  simp
 unfold zkZ at hD
 cases hok:okD ops.toList (befs ops.toList []) with
 | false=>
  rw [hok] at hD
  simp only [cond_false] at hD
  cases hoE:okE ops.toList (befs ops.toList []) (late ops.toList) with
  | true=>
   rw [hoE] at hD
   simp only [cond_true] at hD
   exact zaZ hS hT hmix r hf _ (fun p hp=>hz p (Yn _ _ _ p hp)) hoE hD hQ t
  | false=>
   rw [hoE] at hD
   simp only [cond_false] at hD
   obtain ⟨hoE,hD⟩:=zG hD
   exact zaZ hS hT hmix r hf _ (fun p hp=>hz p (wV _ _ _ _ p hp)) hoE hD hQ t
 | true=>
 rw [hok] at hD
 simp only [cond_true] at hD
 obtain ⟨hdeps,hpair⟩:=zcs hok
 have hinc:∀(l:List Oper) (n:Nat),(l.zipIdx n).Pairwise (fun p q=>p.2<q.2):=by
  intro l
  induction l with
  | nil=>intro n;simp
  | cons x l ih=>
   intro n
   rw [List.zipIdx_cons,List.pairwise_cons]
   refine ⟨fun p hp=>?_,ih (n+1)⟩
   have:=List.mem_zipIdx hp
   show n<p.2
   omega
 obtain ⟨L,fr2,h2,q1,q2,q3,q4,_,_⟩:=zqy (S:=S) (T:=T) hok ops.toList.zipIdx [] [] fr h hz (hinc _ 0) (fun e he=>by simp at he) (fun e he=>by simp at he) trivial (fun e he=>by simp at he) hD
 have hLi:L.map (·.i)=List.range ops.size:=by
  have:=congrArg (List.map Prod.snd) q3
  simpa [List.range_eq_range',Function.comp_def] using this
 rw [hmix]
 unfold Region.schedule
 simp only [Bool.true_or,if_true]
 unfold Region.linearise
 refine zpP hS hT hok ops.size t _ L (by have:=congrArg List.length hLi;simp at this;omega) q1 ?_ ?_ q4 (by simp) ?_ ?_ r hf fun μ' w' a' t' f' d'=>hQ μ' h2 w' fr2 a' t' f' d' q2
 ·intro s hs
  have:(s.o,s.i)∈ops.toList.zipIdx:=by rw [←q3];exact List.mem_map_of_mem hs
  have:=hz _ this
  rwa [Array.getElem?_toList] at this
 ·rw [hLi,List.range_eq_range']
  rw [←List.range_eq_range']
  refine List.pairwise_lt_range.imp fun {x y} hxy=>⟨by omega,?_⟩
  cases hb:bef (befs ops.toList []) x y with
  | false=>rfl
  | true=>have:=zAE hdeps _ _ hb;omega
 ·intro i hi
  rw [Array.getElem?_replicate,if_pos hi]
  refine ⟨fun _=>?_,fun _=>rfl⟩
  have:i∈L.map (·.i):=by rw [hLi];simpa using hi
  obtain ⟨s,hs,e⟩:=List.mem_map.1 this
  exact ⟨s,hs,e⟩
 ·intro j x hj
  rw [Array.getElem?_replicate] at hj
  split at hj <;> cases hj
def exm:Exit→Ex→Prop
 | .normal,.normal=>True
 | .exit i,.exit j=>i=j
 | .ret,.ret=>True
 | _,_=>False
def CPost (μ :Mu) (h:H) (w:World) (df:List Deferred) (k:Kont):Exit→Act→World→Prop:=fun e a' w'=>
 a'.defers=df∧∃e2 fr' h' μ',exm e e2∧k e2 fr' h'∧Tr μ h w μ' h' w'∧VRs μ' h' fr' a'.tmps.toList
theorem Xk {μ h} {fr:Frame} {ds:List Value} (m:List Nat) (hf:VRs μ h fr ds):VRs μ h (mask m fr) ds:=by
 refine VRs.mk (by simp [mask,hf.len]) fun i v d h1 h2=>?_
 unfold mask at h1
 rw [List.getElem?_map,List.getElem?_zipIdx] at h1
 cases hq:fr[i]? with
 | none=>rw [hq] at h1;cases h1
 | some x=>
  rw [hq] at h1
  simp only [Option.map_some,Option.some.injEq,Nat.zero_add] at h1
  obtain ⟨d',h3,h4⟩:=hf.get hq
  rw [h2] at h3
  cases h3
  subst h1
  generalize m.contains i=b
  cases b
  ·simp [VR]
  ·exact h4
theorem CPost.later {μ h w df k μ1 h1 w1 e a' w'} (t:Tr μ h w μ1 h1 w1) (c:CPost μ1 h1 w1 df k e a' w'):CPost μ h w df k e a' w':=by
 obtain ⟨hd,e2,fr',h',μ',c1,c2,c3,c4⟩:=c
 exact ⟨hd,e2,fr',h',μ',c1,c2,t.trans c3,c4⟩
theorem zgY {μ h} {fr:Frame} {ds:List Value} (m:List Nat) (hf:VRs μ h fr ds):VRs μ h (zqZ m fr) ds:=by
 unfold zqZ
 split
 ·exact hf
 ·exact Xk _ hf
theorem xY (hS:∀f args h v h2,S f args h v h2→Sat P f args h v h2) (hT:TOK P T) (hmix:P.follows .mixedOrders=true) (M:Nat→List Nat):
  ∀(c:Code) (m:List Nat) (k:Kont) {μ :Mu} {h:H} {w:World} {fr:Frame} {a:Act},Rel μ h w→VRs μ h fr a.tmps.toList→cwp S T M m c k fr h→c.wp P (CPost μ h w a.defers k) a w
 | .skip,m,k,μ,h,w,fr,a,r,hf,H=>wp_skip ⟨rfl,.normal,fr,h,μ,trivial,H,Tr.refl r,hf⟩
 | .region id ops d,m,k,μ,h,w,fr,a,r,hf,H=>by
  cases d with
  | false=>
   refine wp_region ?_
   rw [List.range_eq_range',←Array.length_toList]
   exact zgO hS hT ops.toList 0 rfl r hf H fun μ' h' w' fr' a' t f' d' hk=>⟨d',.normal,_,h',μ',trivial,hk,t,zgY _ f'⟩
  | true=>
   refine wp_region_draw fun t=>?_
   have H:=(zmO S T _ _ _ fr h).mp H
   have:=zkY hS hT hmix (w:=w.drew) (Q:=CPost μ h w a.defers k) r.drew hf H (fun μ' h' w' fr' a' t f' d' hk=>⟨d',.normal,_,h',μ',trivial,hk,(Tr.drew r).trans t,zgY _ f'⟩) t
   exact this
 | .seq x y,m,k,μ,h,w,fr,a,r,hf,H=>by
  unfold cwp at H
  cases hr:zrn x with
  | true=>
   rw [hr] at H
   exact zqB hS hT H r (Xk _ hf) fun n μ1 w1 a1 hk t1 f1 d1=>⟨d1,.normal,_,h,μ1,trivial,hk,t1,f1⟩
  | false=>
  rw [hr] at H
  refine wp_seq (wp_mono (xY hS hT hmix M x m _ r hf H) fun e a' w' hq=>?_)
  obtain ⟨hd,e2,fr',h',μ',c1,c2,c3,c4⟩:=hq
  cases e <;> cases e2 <;> first
   | exact c1.elim
   |(show y.wp P _ a' w'
     refine wp_mono (xY hS hT hmix M y m k c3.rel c4 c2) fun e a2 w2 hq=>?_
     rw [hd] at hq
     exact hq.later c3)
   | exact ⟨hd,_,fr',h',μ',c1,c2,c3,c4⟩
 | .cond c x y,m,k,μ,h,w,fr,a,r,hf,H=>by
  unfold cwp at H
  have hc:=yJ hf c
  split at H
  ·next t e=>
   rw [e] at hc
   simp only [VR] at hc
   refine wp_cond_split hc (fun ht=>?_) (fun ht=>?_)
   ·subst ht;exact xY hS hT hmix M x m k r hf H
   ·subst ht;exact xY hS hT hmix M y m k r hf H
  ·exact H.elim
 | .block id x,m,k,μ,h,w,fr,a,r,hf,H=>by
  refine wp_block (wp_mono (xY hS hT hmix M x (M id) _ r hf H) fun e a' w' hq=>?_)
  obtain ⟨hd,e2,fr',h',μ',c1,c2,c3,c4⟩:=hq
  cases e <;> cases e2 <;> first
   | exact c1.elim
   | exact ⟨hd,_,fr',h',μ',c1,c2,c3,c4⟩
   |(next i j=>
     obtain rfl:i=j:=c1
     simp only [Exit.inBlock]
     have c2':(bif i==id then k .normal fr' h' else k (.exit i) fr' h'):=c2
     by_cases hi:i=id
     ·subst hi
      rw [if_pos rfl]
      simp at c2'
      exact ⟨hd,.normal,fr',h',μ',trivial,c2',c3,c4⟩
     ·rw [if_neg hi]
      have hb:(i==id)=false:=by simpa using hi
      rw [hb] at c2'
      exact ⟨hd,.exit i,fr',h',μ',rfl,c2',c3,c4⟩)
 | .loop x,m,k,μ,h,w,fr,a,r,hf,H=>by
  obtain ⟨n,H⟩:=H
  refine wp_loop_rounds n ?_
  have key:∀n {μ1:Mu} {h1:List AObj} {w1:World} {fr1:Frame} {a1:Act},Tr μ h w μ1 h1 w1→VRs μ1 h1 fr1 a1.tmps.toList→a1.defers=a.defers→
    iter (fun X fr h=>cwp S T M m x (kSeq (fun fr h=>X (mask m fr) h) k) fr h) n fr1 h1→Code.rounds P x (CPost μ h w a.defers k) n a1 w1:=by
   intro n
   induction n with
   | zero=>intro μ1 h1 w1 fr1 a1 t f d H;exact H.elim
   | succ n ih=>
    intro μ1 h1 w1 fr1 a1 t f d H
    rw [rounds_succ]
    refine wp_mono (xY hS hT hmix M x m _ t.rel f H) fun e a' w' hq=>?_
    obtain ⟨hd,e2,fr',h',μ',c1,c2,c3,c4⟩:=hq
    rw [d] at hd
    cases e <;> cases e2 <;> first
     | exact c1.elim
     | exact ih (t.trans c3) (Xk m c4) hd c2
     | exact ⟨hd,_,fr',h',μ',c1,c2,t.trans c3,c4⟩
  exact key n (Tr.refl r) (Xk m hf) rfl H
 | .exit id,m,k,μ,h,w,fr,a,r,hf,H=>wp_exit ⟨rfl,.exit id,fr,h,μ,rfl,H,Tr.refl r,hf⟩
 | .ret,m,k,μ,h,w,fr,a,r,hf,H=>wp_ret ⟨rfl,.ret,fr,h,μ,trivial,H,Tr.refl r,hf⟩
 | .rangeFunc _ _ _ _,m,k,μ,h,w,fr,a,r,hf,H=>H.elim
 | .scope _,m,k,μ,h,w,fr,a,r,hf,H=>H.elim
 | .label _,m,k,μ,h,w,fr,a,r,hf,H=>H.elim
 | .goto _,m,k,μ,h,w,fr,a,r,hf,H=>H.elim
 | .refuse _,m,k,μ,h,w,fr,a,r,hf,H=>H.elim
def zlv (tmps:Array Value):ResultVar→Sem Value
 | .tmp t=>pure (tmps.getD t undef)
 | .cell a t=>do loadVar t (←asAddr (tmps.getD a undef))
theorem zbc (fn:Func) (tmps:Array Value):results fn tmps=(do let vs ←fn.results.mapM (zlv tmps);pure (if h:vs.size=1 then vs[0] else .tuple vs)):=by
 unfold results
 congr 1
theorem qj (hT:TOK P T) {μ :Mu} {h:H} {w:World} {fr:Frame} {tmps:Array Value} (r:Rel μ h w) (hf:VRs μ h fr tmps.toList):
  ∀(l:List ResultVar) (K:List AVal→Prop),resK T l fr h K→∃vs ds,(l.mapM (zlv tmps)).run P w = .ok ds w∧K vs∧VRs μ h vs ds
 | [],K,hK=>⟨[],[],rfl,hK,VRs.nil⟩
 | .tmp t::l,K,hK=>by
  obtain ⟨vs,ds,h1,h2,h3⟩:=qj hT r hf l _ hK
  have:=yJ (a:=⟨tmps,[]⟩) hf (.tmp t)
  refine ⟨_,tmps.getD t undef::ds,?_,h2,VRs.cons this h3⟩
  simp only [List.mapM_cons,zlv,Sem.run_bind,Sem.run_pure,Result.andThen_ok,h1]
 | .cell c t::l,K,hK=>by
  unfold resK at hK
  have hc:=yJ (a:=⟨tmps,[]⟩) hf (.tmp c)
  split at hK
  ·next p e=>
   have hc':VR μ h (fr.getD c .undef) (tmps.getD c undef):=hc
   rw [e] at hc'
   obtain ⟨v,d,h1,h2,h3⟩:=zhc (P:=P) hT r hc' hK
   obtain ⟨vs,ds,k1,k2,k3⟩:=qj hT r hf l _ h2
   refine ⟨_,d::ds,?_,k2,VRs.cons h3 k3⟩
   have hl:(do loadVar t (←asAddr (tmps.getD c undef)):Sem Value).run P w = .ok d w:=by
    simp only [VR,PR] at hc'
    split at hc'
    ·next e2=>
     exfalso
     rw [hc'] at h1
     simp [Instr.loadAt,Instr.sureAddr,stuck] at h1
    ·obtain ⟨_,q,hq,_⟩:=hc'
     rw [hq] at h1 ⊢
     simpa [Instr.loadAt,Instr.sureAddr,asAddr] using h1
   rw [List.mapM_cons,Sem.run_bind]
   rw [show zlv tmps (ResultVar.cell c t)=(do loadVar t (←asAddr (tmps.getD c undef)):Sem Value) from rfl,hl]
   simp only [Result.andThen_ok,Sem.run_bind,k1,Sem.run_pure]
  ·exact hK.elim
theorem Sat.body (hT:TOK P T) (hmix:P.follows .mixedOrders=true) (M:Nat→List Nat) {f:Nat} {fn:Func} {c:Code} (hfn:P.funcs[f]? = some fn) (hb:fn.body=some c) (hcall:∀(a:Array Value) (w:World),(callFunc f a).run P w = .ok (.enter f a) w)
  {args:List AVal} {h:H} {v:AVal} {h2:H}
  (hH:cwp (Sat P) T M [] c (kFun T fn.results.toList fun v' h'=>∀ μ' w',Rel μ' h' w'→∀x,VR μ' h' v' x→∀ μ w,Tr μ h w μ' h' w'→∃ μ2,Tr μ h w μ2 h2 w'∧VR μ2 h2 v x) (fr0 fn args) h):Sat P f args h v h2:=by
 refine ⟨hcall,fun μ w ds r hd=>calls_of_wp hfn hb ?_⟩
 have hfr:VRs μ h (fr0 fn args) (ds.toArray++Array.replicate (fn.ntmps-ds.toArray.size) undef).toList:=by
  unfold fr0
  rw [Array.toList_append]
  refine hd.append ?_
  have:ds.toArray.size=args.length:=by simp [hd.len]
  rw [this]
  refine VRs.mk (by simp) fun i v d h1 h2=>?_
  rw [List.getElem?_replicate] at h1
  simp only [Array.toList_replicate,List.getElem?_replicate] at h2
  split at h1
  ·next hi=>
   rw [if_pos hi] at h2
   cases h1
   cases h2
   simp only [VR]
   rfl
  ·cases h1
 refine wp_mono (xY (fun _ _ _ _ _ h=>h) hT hmix M c [] _ r (a:=⟨_,[]⟩) hfr hH) fun e a' w' hq=>?_
 obtain ⟨hd',e2,fr',h',μ',c1,c2,c3,c4⟩:=hq
 have main:resK T fn.results.toList fr' h' (fun vs=>∀ μ' w',Rel μ' h' w'→∀x,VR μ' h' (one vs) x→∀ μ w,Tr μ h w μ' h' w'→∃ μ2,Tr μ h w μ2 h2 w'∧VR μ2 h2 v x)→
   a'.defers=[]∧∃x,(results fn a'.tmps).run P w' = .ok x w'∧∃x2 μ',(Ending.returned x) = .returned x2∧Tr μ h w μ' h2 w'∧VR μ' h2 v x2:=by
  intro hK
  obtain ⟨vs,ds',k1,k2,k3⟩:=qj (P:=P) hT c3.rel c4 _ _ hK
  have hone:∃x,(results fn a'.tmps).run P w' = .ok x w'∧VR μ' h' (one vs) x:=by
   rw [zbc,Sem.run_bind,Array.mapM_eq_mapM_toList,Sem.run_map,k1]
   simp only [Result.andThen_ok]
   cases vs with
   | nil=>
    simp only [VRs] at k3
    subst k3
    exact ⟨_,rfl,by simp only [one,VR];exact ⟨#[],rfl,VRs.nil⟩⟩
   | cons v1 vs=>
    have k3':=k3
    simp only [VRs] at k3'
    obtain ⟨d1,ds'',rfl,hv1,hvs⟩:=k3'
    cases vs with
    | nil=>
     simp only [VRs] at hvs
     subst hvs
     exact ⟨d1,rfl,hv1⟩
    | cons v2 vs=>
     have k4:=hvs
     simp only [VRs] at k4
     obtain ⟨d2,ds3,rfl,_,_⟩:=k4
     refine ⟨.tuple (d1::d2::ds3).toArray,?_,by simp only [one,VR];exact ⟨_,rfl,k3⟩⟩
     simp
  obtain ⟨x,hx,hvx⟩:=hone
  obtain ⟨μ2,t2,v2⟩:=k2 μ' w' c3.rel x hvx μ w c3
  exact ⟨hd',x,hx,x,μ2,rfl,t2,v2⟩
 cases e <;> cases e2 <;> first
  | exact c1.elim
  | exact c2.elim
  | exact main c2
end
end Go.Proofs.YtlcgclmobfdbcaaGreat.Cl
set_option linter.unusedVariables false
set_option linter.unusedSimpArgs false
namespace Go.Proofs.YtlcgclmobfdbcaaGreat.Cl
open Go
section
variable {P:Program} {T:Tab} {S:SatT} {M:Nat→List Nat}
abbrev LinF (F:(Frame→H→Prop)→Prop):Prop:=Lin fun (K:Frame×H→Prop)=>F fun fr h=>K (fr,h)
abbrev LinE (F:Kont→Prop):Prop:=Lin fun (K:Ex×Frame×H→Prop)=>F fun e fr h=>K (e,fr,h)
theorem xS {β :Type} (o:Oper) (fr:Frame) (h:H) {G:AVal→H→(β →Prop)→Prop} (hG:∀v h,Lin (G v h)):Lin fun K=>opK S T o fr h fun v h=>G v h K:=
 Lin.bind (F:=fun (K:AVal×H→Prop)=>opK S T o fr h fun v h=>K (v,h)) (G:=fun x K=>G x.1 x.2 K) (XR o fr) fun x=>hG x.1 x.2
theorem Yf (ops:List Oper):∀(l:List Oper) (fr:Frame) (h:H),LinF fun k=>zy S T ops l k fr h
 | [],fr,h=>Lin.ret (fr,h)
 | o::os,fr,h=>by
  have ih:=Yf ops os
  unfold zy
  cases hg:o.guard with
  | none=>exact xS o fr h fun v h=>ih _ h
  | some g=>
   obtain ⟨j,want⟩:=g
   simp only
   cases hd:vU ops j with
   | none=>exact Lin.no
   | some d=>
    simp only
    cases hv:fr.getD d .undef with
    | bool b=>
     simp only
     cases b <;> cases want <;> simp only [cond_true,cond_false]
     ·exact xS o _ h fun v h=>ih _ h
     ·exact ih _ h
     ·exact ih _ h
     ·exact xS o _ h fun v h=>ih _ h
    | gone=>exact ih _ h
    | _=>exact Lin.no
theorem qL {β :Type} (o:Oper) (fr:Frame) (h h':H) {F:(β →Prop)→Prop} (hF:Lin F):Lin fun K=>chkK T o fr h h' (F K):=by
 unfold chkK
 split
 ·split
  ·exact Lin.bif_ _ (hF.and _) (hF.and _)
  ·exact hF
 ·split
  ·exact hF.and _
  ·exact hF
 ·exact hF.and _
 ·split
  ·split
   ·split
    ·exact hF.and _
    ·exact hF
   ·exact hF
  ·exact hF
 ·exact hF
theorem Zt {β :Type} (b:List Nat) (i:Nat) (o:Oper) (fr:Frame) (h:H) {F:(β →Prop)→Prop} (hF:Lin F):∀l,Lin fun K=>vY T b i o fr h l (F K)
 | []=>hF
 |(k,h0)::l=>by
  unfold vY
  generalize zK b i k=c
  cases c
  ·exact Zt b i o fr h hF l
  ·exact qL o fr h h0 (Zt b i o fr h hF l)
theorem xZ {β :Type} (b:List Nat) (k:Nat) (h':H) {F:(β →Prop)→Prop} (hF:Lin F):∀l,Lin fun K=>xz T b k h' l (F K)
 | []=>hF
 |(i,o,fr,h)::l=>by
  unfold xz
  generalize zK b i k=c
  cases c
  ·exact xZ b k h' hF l
  ·exact qL o fr h h' (xZ b k h' hF l)
theorem vy {β :Type} (b:List Nat) (i:Nat) (o:Oper) (past:List (Nat×H)) (pend:List (Nat×Oper×Frame×H)) (fr:Frame) (h:H)
  {G:List (Nat×H)→List (Nat×Oper×Frame×H)→AVal→H→(β →Prop)→Prop} (hG:∀p q v h,Lin (G p q v h)):
  Lin fun K=>wQ S T b i o past pend fr h fun p q v h=>G p q v h K:=by
 unfold wQ
 generalize zz o.op=c
 generalize xb o.op=d
 cases c
 ·cases d
  ·exact xS o fr h (G:=fun v h K=>G past pend v h K) fun v h=>hG _ _ _ _
  ·exact xS o fr h (G:=fun v h' K=>vY T b i o fr h past (G past ((i,o,fr,h)::pend) v h' K)) fun v h'=>Zt b i o fr h (hG _ _ _ _) past
 ·exact xS o fr h (G:=fun v h' K=>xz T b i h' pend (G ((i,h)::past) pend v h' K)) fun v h'=>xZ b i h' (hG _ _ _ _) pend
theorem XF (ops:List Oper) (b:List Nat):∀(l:List (Oper×Nat)) past pend (fr:Frame) (h:H),LinF fun k=>yR S T ops b l past pend k fr h
 | [],_,_,fr,h=>Lin.ret (fr,h)
 |(o,i)::os,past,pend,fr,h=>by
  have ih:=XF ops b os
  unfold yR
  cases hg:o.guard with
  | none=>exact vy b i o past pend fr h fun p q v h=>ih p q _ h
  | some g=>
   obtain ⟨j,want⟩:=g
   simp only
   cases hd:vU ops j with
   | none=>exact Lin.no
   | some d=>
    simp only
    cases hv:fr.getD d .undef with
    | bool c=>
     simp only
     cases c <;> cases want <;> simp only [cond_true,cond_false]
     ·exact vy b i o past pend _ h fun p q v h=>ih p q _ h
     ·exact ih _ _ _ h
     ·exact ih _ _ _ h
     ·exact vy b i o past pend _ h fun p q v h=>ih p q _ h
    | gone=>exact ih _ _ _ h
    | _=>exact Lin.no
theorem zBt {β :Type} (o:Oper) (fr:Frame) (h:H) (n:Nat) {G:AVal→H→(β →Prop)→Prop} (hG:∀v h,Lin (G v h)):Lin fun K=>opA S T o fr h n fun v h=>G v h K:=by
 unfold opA
 refine xS o fr [] (G:=fun v h1 K=>match h1 with | [x]=>G (v.at_ n) (h.set n x) K | _=>False) fun v h1=>?_
 match h1 with
 | [x]=>exact hG _ _
 | []=>exact Lin.no
 | _::_::_=>exact Lin.no
theorem wD {β :Type} (b:List Nat) (k:Nat) (past:List (Nat×H)) (h':H) {F:(β →Prop)→Prop} (hF:Lin F):∀l,Lin fun K=>xf T b k past h' l (F K)
 | []=>hF
 |(i,o,fr,h)::l=>by
  unfold xf
  generalize (zK b i k&&zjk b past i)=c
  cases c
  ·exact wD b k past h' hF l
  ·exact qL o fr h h' (wD b k past h' hF l)
theorem wE {β :Type} (b:List Nat) (i:Nat) (o:Oper) (fr:Frame) (h:H) {F:(β →Prop)→Prop} (hF:Lin F):∀l nx,Lin fun K=>xC T b i o fr h nx l (F K)
 | [],nx=>hF
 |(k,h0)::l,nx=>by
  unfold xC
  generalize zK b i k=c
  cases c
  ·exact wE b i o fr h hF l _
  ·cases nx with
   | none=>exact qL o fr h h0 (wE b i o fr h hF l _)
   | some h1=>exact qL o fr h h1 (qL o fr h h0 (wE b i o fr h hF l _))
theorem vu {β :Type} (b:List Nat) (n i:Nat) (o:Oper) (past:List (Nat×H)) (pend:List (Nat×Oper×Frame×H)) (fr:Frame) (h:H)
  {G:List (Nat×H)→List (Nat×Oper×Frame×H)→AVal→H→(β →Prop)→Prop} (hG:∀p q v h,Lin (G p q v h)):
  Lin fun K=>wP S T b n i o past pend fr h fun p q v h=>G p q v h K:=by
 unfold wP
 generalize zC o.op=a
 generalize zz o.op=c
 generalize xb o.op=d
 cases a
 ·cases c
  ·cases d
   ·exact xS o fr h (G:=fun v h K=>G past pend v h K) fun v h=>hG _ _ _ _
   ·exact xS o fr h (G:=fun v h' K=>xC T b i o fr h none past (G past ((i,o,fr,h)::pend) v h' K)) fun v h'=>wE b i o fr h (hG _ _ _ _) past none
  ·exact xS o fr h (G:=fun v h' K=>xf T b i past h pend (xz T b i h' pend (G ((i,h)::past) pend v h' K))) fun v h'=>wD b i past h (xZ b i h' (hG _ _ _ _) pend) pend
 ·exact zBt o fr h (n+i) (G:=fun v h' K=>xf T b i past h pend (xz T b i h' pend (G ((i,h)::past) pend v h' K))) fun v h'=>wD b i past h (xZ b i h' (hG _ _ _ _) pend) pend
theorem q9 (ops:List Oper) (b:List Nat) (n:Nat):∀(l:List (Oper×Nat)) past pend (fr:Frame) (h:H),LinF fun k=>yo S T ops b n l past pend k fr h
 | [],_,_,fr,h=>Lin.ret (fr,h)
 |(o,i)::os,past,pend,fr,h=>by
  have ih:=q9 ops b n os
  unfold yo
  cases hg:o.guard with
  | none=>exact vu b n i o past pend fr h fun p q v h=>ih p q _ h
  | some g=>
   obtain ⟨j,want⟩:=g
   simp only
   cases hd:vU ops j with
   | none=>exact Lin.no
   | some d=>
    simp only
    cases hv:fr.getD d .undef with
    | bool c=>
     simp only
     cases c <;> cases want <;> simp only [cond_true,cond_false]
     ·exact vu b n i o past pend _ h fun p q v h=>ih p q _ h
     ·exact ih _ _ _ h
     ·exact ih _ _ _ h
     ·exact vu b n i o past pend _ h fun p q v h=>ih p q _ h
    | gone=>exact ih _ _ _ h
    | _=>exact Lin.no
theorem zAt (ops:List Oper) (fr:Frame) (h:H):LinF fun k=>zkZ S T ops k fr h:=by
 unfold zkZ
 generalize okD ops (befs ops [])=c
 cases c
 ·unfold vp
  generalize okE ops (befs ops []) (late ops)=d
  cases d
  ·generalize okE ops (befs ops []) (zrc ops (befs ops []))=d
   cases d
   ·exact Lin.no
   ·exact q9 _ _ _ _ _ _ _ _
  ·exact q9 _ _ _ _ _ _ _ _
 ·exact XF _ _ _ _ _ _ _
theorem toEm {F:(Frame→H→Prop)→Prop} (hF:LinF F) (g:Frame→Frame):LinE fun k=>F (fun fr h=>k .normal (g fr) h):=Lin.map hF fun p=>(Ex.normal,g p.1,p.2)
theorem zLv {F:Kont→Prop} (hF:LinE F) {G:Kont→Kont} (hG:∀e fr h,LinE fun k=>G k e fr h):LinE fun k=>F (G k):=
 Lin.bind (F:=fun (K:Ex×Frame×H→Prop)=>F fun e fr h=>K (e,fr,h)) (G:=fun x K=>G (fun e fr h=>K (e,fr,h)) x.1 x.2.1 x.2.2) hF fun x=>hG x.1 x.2.1 x.2.2
theorem retE (e:Ex) (fr:Frame) (h:H):LinE fun k=>k e fr h:=Lin.ret (e,fr,h)
theorem Zs:∀(c:Code) (m:List Nat) (fr:Frame) (h:H),LinE fun k=>cwp S T M m c k fr h
 | .skip,m,fr,h=>retE _ _ _
 | .region id ops d,m,fr,h=>by
  cases d
  ·exact toEm (Yf _ _ _ _) _
  ·have:=toEm (zAt (S:=S) (T:=T) ops.toList fr h) (zqZ (M (1000+id)))
   simp only [←zmO S T (M (2000+id))] at this
   exact this
 | .seq a b,m,fr,h=>by
  unfold cwp
  cases zrn a with
  | true=>
   unfold zqI
   exact Lin.exists_ fun p=>Lin.exists_ fun r=>Lin.exists_ fun es=>Lin.exists_ fun n=>(((((retE _ _ _).and _).and _).and _).and _).and _
  | false=>
   refine zLv (Zs a m fr h) (G:=fun k=>kSeq (cwp S T M m b k) k) fun e fr h=>?_
   cases e
   ·exact Zs b m fr h
   ·exact retE _ _ _
   ·exact retE _ _ _
 | .cond c a b,m,fr,h=>by
  unfold cwp
  cases ev fr c with
  | bool t=>cases t;exact Zs b m fr h;exact Zs a m fr h
  | _=>exact Lin.no
 | .block id a,m,fr,h=>zLv (Zs a (M id) fr h) (G:=fun k=>kBlk id k) fun e fr h=>by
  cases e with
  | normal=>exact retE _ _ _
  | ret=>exact retE _ _ _
  | exit j=>
   unfold kBlk
   simp only
   generalize (j==id)=c
   cases c <;> exact retE _ _ _
 | .loop a,m,fr,h=>by
  refine Lin.exists_ fun n=>?_
  have key:∀n fr h,LinE fun k=>iter (fun X fr h=>cwp S T M m a (kSeq (fun fr h=>X (mask m fr) h) k) fr h) n fr h:=by
   intro n
   induction n with
   | zero=>intro fr h;exact Lin.no
   | succ n ih=>
    intro fr h
    refine zLv (Zs a m fr h) (G:=fun k=>kSeq (fun fr h=>iter (fun X fr h=>cwp S T M m a (kSeq (fun fr h=>X (mask m fr) h) k) fr h) n (mask m fr) h) k) fun e fr h=>?_
    cases e
    ·exact ih _ h
    ·exact retE _ _ _
    ·exact retE _ _ _
  exact key n _ h
 | .exit id,m,fr,h=>retE _ _ _
 | .ret,m,fr,h=>retE _ _ _
 | .rangeFunc _ _ _ _,m,fr,h=>Lin.no
 | .scope _,m,fr,h=>Lin.no
 | .label _,m,fr,h=>Lin.no
 | .goto _,m,fr,h=>Lin.no
 | .refuse _,m,fr,h=>Lin.no
theorem ZF (fr:Frame) (h:H):∀rs:List ResultVar,Lin fun K=>resK T rs fr h K
 | []=>Lin.ret []
 | .tmp t::l=>Lin.map (ZF fr h l) fun vs=>fr.getD t .undef::vs
 | .cell a t::l=>by
  unfold resK
  cases fr.getD a .undef with
  | ptr p=>exact Lin.bind (zjj t p) fun v=>Lin.map (ZF fr h l) fun vs=>v::vs
  | _=>exact Lin.no
theorem zBD (rs:List ResultVar) (e:Ex) (fr:Frame) (h:H):Lin fun (K:AVal×H→Prop)=>kFun T rs (fun v h=>K (v,h)) e fr h:=by
 cases e
 ·exact Lin.map (ZF fr h rs) fun vs=>(one vs,h)
 ·exact Lin.no
 ·exact Lin.map (ZF fr h rs) fun vs=>(one vs,h)
theorem zIZ (c:Code) (m:List Nat) (rs:List ResultVar) (fr:Frame) (h:H):Lin fun (K:AVal×H→Prop)=>cwp S T M m c (kFun T rs fun v h=>K (v,h)) fr h:=
 Lin.bind (F:=fun (K:Ex×Frame×H→Prop)=>cwp S T M m c (fun e fr h=>K (e,fr,h)) fr h) (G:=fun x K=>kFun T rs (fun v h=>K (v,h)) x.1 x.2.1 x.2.2) (Zs c m fr h) fun x=>zBD rs x.1 x.2.1 x.2.2
theorem Sat.ex (hT:TOK P T) (hmix:P.follows .mixedOrders=true) (M:Nat→List Nat) {f:Nat} {fn:Func} {c:Code} (hfn:P.funcs[f]? = some fn) (hb:fn.body=some c) (hcall:∀(a:Array Value) (w:World),(callFunc f a).run P w = .ok (.enter f a) w)
  {args:List AVal} {h:H} {K:AVal→H→Prop} (hH:cwp (Sat P) T M [] c (kFun T fn.results.toList K) (fr0 fn args) h):∃v h2,Sat P f args h v h2∧K v h2:=by
 have hl:=zIZ (S:=Sat P) (T:=T) (M:=M) c [] fn.results.toList (fr0 fn args) h
 obtain ⟨⟨v,h2⟩,hk,hx⟩:=Lin.wit hl (K:=fun p=>K p.1 p.2) hH
 refine ⟨v,h2,Sat.body hT hmix M hfn hb hcall (Lin.mono hl (K:=fun y=>y=(v,h2)) (K':=fun p=>∀ μ' w',Rel μ' p.2 w'→∀x,VR μ' p.2 p.1 x→∀ μ w,Tr μ h w μ' p.2 w'→∃ μ2,Tr μ h w μ2 h2 w'∧VR μ2 h2 v x) ?_ hx),hk⟩
 rintro _ rfl μ' w' r x hx μ w t
 exact ⟨μ',t,hx⟩
theorem zd {f : Nat} {fn : Func} {c : Code} (hfn : P.funcs[f]? = some fn) (hb : fn.body = some c) (hn : (fn.name == "runtime.NumGoroutine") = false) (a : Array Value) (w : World) : (callFunc f a).run P w = .ok (.enter f a) w := by
 unfold callFunc
 rw [Sem.run_bind,show Sem.run P program w = .ok P w from rfl]
 simp only [Result.andThen_ok]
 rw [hfn]
 simp only [hn,hb,Option.isNone_some]
 rfl
theorem zg {σ :Type} {F:(Frame→H→Prop)→Frame→H→Prop} (enc: σ →Frame) (I: σ →H→Prop) (m: σ →H→Nat)
  (hs:∀X s h,I s h→(∀s' h',I s' h'→m s' h'<m s h→X (enc s') h')→F X (enc s) h) (s: σ) {h:H} (h0:I s h):zs F (enc s) h:=by
 refine ⟨m s h+1,?_⟩
 have key:∀n s h,m s h<n→I s h→iter F n (enc s) h:=by
  intro n
  induction n with
  | zero=>intro s h hm;omega
  | succ n ih=>
   intro s h hm hi
   exact hs _ s h hi fun s' h' hi' hm'=>ih s' h' (by omega) hi'
 exact key _ s h (by omega) h0
end
section
variable {S:SatT} {T:Tab} {M:Nat→List Nat} {m:List Nat} {c:Code} {k:Kont} {fr:Frame} {h:H}
theorem zI (e:c = .skip):cwp S T M m c k fr h=k .normal fr h:=by subst e;rfl
theorem ze {a b:Code} (e:c = .seq a b) (hn:zrn a=false:=by kernel_rfl):cwp S T M m c k fr h=cwp S T M m a (kSeq (cwp S T M m b k) k) fr h:=by
 subst e
 show (bif zrn a then _ else _)=_
 rw [hn];rfl
theorem zD {x:Operand} {a b:Code} (e:c = .cond x a b) {t:Bool} (he:ev fr x = .bool t):cwp S T M m c k fr h=(bif t then cwp S T M m a k fr h else cwp S T M m b k fr h):=by
 subst e
 show (match ev fr x with | .bool t=>bif t then cwp S T M m a k fr h else cwp S T M m b k fr h | _=>False)=_
 rw [he]
theorem YZ {id:Nat} {a:Code} (e:c = .block id a):cwp S T M m c k fr h=cwp S T M (M id) a (kBlk id k) fr h:=by subst e;rfl
theorem zlc {a:Code} (e:c = .loop a):cwp S T M m c k fr h=zs (fun X fr h=>cwp S T M m a (kSeq (fun fr h=>X (mask m fr) h) k) fr h) (mask m fr) h:=by subst e;rfl
theorem yu (e:c = .ret):cwp S T M m c k fr h=k .ret fr h:=by subst e;rfl
theorem zm (n:Frame→H→Prop) (k:Kont) (fr:Frame) (h:H):kSeq n k .normal fr h=n fr h:=rfl
theorem Wa (n:Frame→H→Prop) (k:Kont) (fr:Frame) (h:H):kSeq n k .ret fr h=k .ret fr h:=rfl
theorem zLW (i:Nat) (k:Kont) (fr:Frame) (h:H):kBlk i k .normal fr h=k .normal fr h:=rfl
theorem zlH (i:Nat) (k:Kont) (fr:Frame) (h:H):kBlk i k .ret fr h=k .ret fr h:=rfl
theorem z8 {t:Bool} {a b a' b':Prop} (e1:a=a') (e2:b=b'):(bif t then a else b)=(bif t then a' else b'):=by rw [e1,e2]
end
end Go.Proofs.YtlcgclmobfdbcaaGreat.Cl
set_option linter.unusedVariables false
set_option linter.unusedSimpArgs false
namespace Go.Proofs.YtlcgclmobfdbcaaGreat.Cl
open Go
theorem zjo {α :Type} (h l:List α) (i:Nat):(h++l)[h.length+i]? = l[i]? :=by
 rw [List.getElem?_append_right (by omega)];congr 1;omega
theorem zlX {α :Type} (h l:List α):(h++l)[h.length]? = l[0]? :=zjo h l 0
theorem ziT {α :Type} (h l:List α) (i:Nat) (x: α):(h++l).set (h.length+i) x=h++l.set i x:=by
 rw [List.set_append_right _ _ (by omega)];congr 2;omega
theorem zlr {α :Type} (h l:List α) (x: α):(h++l).set h.length x=h++l.set 0 x:=ziT h l 0 x
theorem zsd {α :Type} {h:List α} (l:List α) {o:Nat} (ho:o<h.length):(h++l)[o]? = h[o]? :=List.getElem?_append_left ho
def Ext (h h':H):Prop:=∃l,h'=h++l
theorem Ext.refl (h:H):Ext h h:=⟨[],by simp⟩
theorem Ext.app (h l:H):Ext h (h++l):=⟨l,rfl⟩
theorem Ext.trans {a b c:H} (x:Ext a b) (y:Ext b c):Ext a c:=by
 obtain ⟨l,rfl⟩:=x
 obtain ⟨m,rfl⟩:=y
 exact ⟨l++m,by simp⟩
theorem Ext.len {a b:H} (x:Ext a b):a.length≤b.length:=by obtain ⟨l,rfl⟩:=x;simp
theorem Ext.get {a b:H} (x:Ext a b) {o:Nat} (ho:o<a.length):b[o]? = a[o]? :=by obtain ⟨l,rfl⟩:=x;exact zsd l ho
theorem Ext.of {a b:H} (hl:a.length≤b.length) (hg:∀o,o<a.length→b[o]? = a[o]?):Ext a b:=by
 refine ⟨b.drop a.length,?_⟩
 apply List.ext_getElem?
 intro i
 by_cases hi:i<a.length
 ·rw [hg i hi,List.getElem?_append_left hi]
 ·rw [List.getElem?_append_right (by omega),List.getElem?_drop]
  congr 1;omega
theorem yC {h:H} {o n:Nat} {cs:List AVal} (e:cells h o n=some cs):o<h.length:=by
 unfold cells at e
 by_cases ho:o<h.length
 ·exact ho
 ·rw [List.getElem?_eq_none (by omega)] at e;cases e
theorem ziF {h:H} {o n:Nat} {cs:List AVal} (l:H) (e:cells h o n=some cs):cells (h++l) o n=some cs:=by
 have:=yC e
 unfold cells at e ⊢
 rw [zsd l this];exact e
theorem zqH {h:H} {o:Option Nat} {n off k:Nat} {cs:List AVal} (l:H) (e:range h o n off k=some cs):range (h++l) o n off k=some cs:=by
 unfold range at e ⊢
 cases o with
 | none=>exact e
 | some o=>
  simp only at e ⊢
  cases hc:cells h o n with
  | none=>rw [hc] at e;cases e
  | some x=>rw [hc] at e;rw [ziF l hc];exact e
theorem zEv {h:H} {p:Pt} {v:AVal} (l:H) (e:cell h p=some v):cell (h++l) p=some v:=by
 unfold cell at e ⊢
 cases ho:p.o with
 | none=>rw [ho] at e;exact e
 | some o=>
  rw [ho] at e
  simp only at e ⊢
  cases hc:cells h o p.n with
  | none=>rw [hc] at e;cases e
  | some x=>rw [hc] at e;rw [ziF l hc];exact e
theorem Ext.range {a b:H} (x:Ext a b) {o n off k cs} (e:range a o n off k=some cs):range b o n off k=some cs:=by obtain ⟨l,rfl⟩:=x;exact zqH l e
theorem Ext.cell {a b:H} (x:Ext a b) {p v} (e:cell a p=some v):cell b p=some v:=by obtain ⟨l,rfl⟩:=x;exact zEv l e
theorem Ext.own {a b:H} (x:Ext a b) {o:Nat} {v:AObj} (e:a[o]? = some v):b[o]? = some v:=by
 have:o<a.length:=(List.getElem?_eq_some_iff.1 e).1
 rw [x.get this,e]
section
variable {S:SatT}
theorem callV.to {f args h} {K K':AVal→H→Prop} (x:callV S f args h K) (hk:∀v h',K v h'→K' v h'):callV S f args h K':=by
 obtain ⟨v,h',a,b⟩:=x;exact ⟨v,h',a,hk v h' b⟩
theorem callI.to {k f args h} {K K':Int→H→Prop} (x:callI S k f args h K) (hk:∀v h',K v h'→K' v h'):callI S k f args h K':=by
 obtain ⟨v,h',a,b⟩:=x;exact ⟨v,h',a,hk v h' b⟩
theorem callB.to {f args h} {K K':Bool→H→Prop} (x:callB S f args h K) (hk:∀v h',K v h'→K' v h'):callB S f args h K':=by
 obtain ⟨v,h',a,b⟩:=x;exact ⟨v,h',a,hk v h' b⟩
theorem callS.to {f args h} {K K':Sl→H→Prop} (x:callS S f args h K) (hk:∀v h',K v h'→K' v h'):callS S f args h K':=by
 obtain ⟨v,h',a,b⟩:=x;exact ⟨v,h',a,hk v h' b⟩
theorem callP.to {f args h} {K K':Pt→H→Prop} (x:callP S f args h K) (hk:∀v h',K v h'→K' v h'):callP S f args h K':=by
 obtain ⟨v,h',a,b⟩:=x;exact ⟨v,h',a,hk v h' b⟩
theorem callA.to {f args h} {K K':List AVal→H→Prop} (x:callA S f args h K) (hk:∀v h',K v h'→K' v h'):callA S f args h K':=by
 obtain ⟨v,h',a,b⟩:=x;exact ⟨v,h',a,hk v h' b⟩
theorem yz {f:Nat} {cap args:List AVal} {K:Nat→List AVal→Prop} (hk:K f (args++cap)):viaF (.func f cap) args K:=⟨f,cap,rfl,hk⟩
end
theorem zf {n:Int} (h1: -9223372036854775808≤n) (h2:n<9223372036854775808):w64 n=n:=by
 unfold w64 IntKind.wrap
 simp [IntKind.bits,IntKind.signed] <;> omega
def ic (l:List Int):List AVal:=l.map i64
theorem vm (l:List Int):(ic l).length=l.length:=by simp [ic]
theorem qS (l m:List Int):ic (l++m)=ic l++ic m:=by simp [ic]
structure Rd (h:H) (s:Sl) (z:Nat) (cs:List AVal):Prop where
 len:cs.length=s.len*z
 at_:s.len=0∨(s.sz=z∧s.o.isSome=true∧range h s.o s.n s.off (s.len*z)=some cs)
theorem Rd.nil (h:H) (z:Nat):Rd h Sl.nil z []:=⟨by simp [Sl.nil],.inl rfl⟩
theorem Rd.empty {h:H} {s:Sl} (z:Nat) (e:s.len=0):Rd h s z []:=⟨by simp [e],.inl e⟩
theorem Rd.ext {h h':H} {s z cs} (r:Rd h s z cs) (x:Ext h h'):Rd h' s z cs:=
 ⟨r.len,r.at_.imp id fun ⟨a,b,c⟩=>⟨a,b,x.range c⟩⟩
theorem zL {h:H} {o:Option Nat} {n off k:Nat} {cs:List AVal} (e:range h o n off k=some cs):∃o' xs,o=some o'∧cells h o' n=some xs∧off+k≤xs.length∧cs=(xs.drop off).take k:=by
 unfold range at e
 cases o with
 | none=>cases e
 | some o=>
  simp only at e
  cases hc:cells h o n with
  | none=>rw [hc] at e;cases e
  | some xs=>
   rw [hc] at e
   simp only [Option.bind_some] at e
   split at e
   ·next hl=>cases e;exact ⟨o,xs,rfl,hc,hl,rfl⟩
   ·cases e
theorem yX {h:H} {o n off k:Nat} {xs:List AVal} (e:cells h o n=some xs) (hl:off+k≤xs.length):range h (some o) n off k=some ((xs.drop off).take k):=by
 unfold range
 simp [e,hl]
theorem zqG {h:H} {o:Option Nat} {n off k:Nat} {cs:List AVal} (e:range h o n off k=some cs):cs.length=k:=by
 obtain ⟨o,xs,rfl,_,hl,rfl⟩:=zL e
 simp;omega
theorem vE {h:H} {o:Option Nat} {n off k:Nat} {cs:List AVal} (e:range h o n off k=some cs) {a b:Nat} (hab:a+b≤k):range h o n (off+a) b=some ((cs.drop a).take b):=by
 obtain ⟨o,xs,rfl,hc,hl,rfl⟩:=zL e
 rw [yX hc (by omega)]
 congr 1
 rw [List.drop_take,List.drop_drop,List.take_take]
 congr 1
 omega
theorem zU {h:H} {o:Option Nat} {n off k:Nat} {cs:List AVal} (e:range h o n off k=some cs) {i:Nat} (hi:i<k):cell h ⟨o,n,off+i⟩=cs[i]? :=by
 obtain ⟨o,xs,rfl,hc,hl,rfl⟩:=zL e
 unfold cell
 simp [hc,List.getElem?_take,hi,List.getElem?_drop]
theorem Rd.ldA {h:H} {s:Sl} {z:Nat} {cs:List AVal} (r:Rd h s z cs) {i:Int} (h0:0≤i) (h1:i<s.len) {K:List AVal→Prop} (hk:K ((cs.drop (i.toNat*z)).take z)):ixS s z i fun p=>ldA p z h K:=by
 obtain hl | ⟨a,b,c⟩:=r.at_
 ·omega
 ·refine ⟨⟨h0,h1⟩,a,b,?_⟩
  refine ⟨_,vE c ?_,hk⟩
  have:(i.toNat+1)*z≤s.len*z:=Nat.mul_le_mul_right _ (by omega)
  rw [Nat.add_mul] at this;omega
theorem Rd.ix {h:H} {s:Sl} {z:Nat} {cs:List AVal} (r:Rd h s z cs) {i:Int} (h0:0≤i) (h1:i<s.len) {K:Pt→Prop}
  (hk:∀p:Pt,p.o.isSome=true→range h p.o p.n p.off z=some ((cs.drop (i.toNat*z)).take z)→K p):ixS s z i K:=by
 obtain hl | ⟨a,b,c⟩:=r.at_
 ·omega
 ·refine ⟨⟨h0,h1⟩,a,b,hk ⟨s.o,s.n,s.off+i.toNat*z⟩ b ?_⟩
  refine vE c ?_
  have:(i.toNat+1)*z≤s.len*z:=Nat.mul_le_mul_right _ (by omega)
  rw [Nat.add_mul] at this;omega
theorem Rd.ldI {h:H} {s:Sl} {l:List Int} (r:Rd h s 1 (ic l)) {i:Int} (h0:0≤i) (h1:i<l.length) {K:Int→Prop} (hk:∀x,l[i.toNat]? = some x→K x):ixS s 1 i fun p=>ldI .i64 p h K:=by
 have hlen:l.length=s.len:=by have:=r.len;rw [vm] at this;omega
 have hx:l[i.toNat]? = some l[i.toNat]:=List.getElem?_eq_getElem (by omega)
 obtain hl | ⟨a,b,c⟩:=r.at_
 ·omega
 ·refine ⟨⟨h0,by omega⟩,a,b,l[i.toNat],?_,hk _ hx⟩
  have:=zU c (i:=i.toNat) (by omega)
  rw [Nat.mul_one,this]
  unfold ic
  rw [List.getElem?_map,hx]
  rfl
theorem Rd.ldS {h:H} {s:Sl} {l:List Sl} (r:Rd h s 1 (l.map .sl)) {i:Int} (h0:0≤i) (h1:i<l.length) {K:Sl→Prop} (hk:∀x,l[i.toNat]? = some x→K x):ixS s 1 i fun p=>ldS p h K:=by
 have hlen:l.length=s.len:=by have:=r.len;simp at this;omega
 have hx:l[i.toNat]? = some l[i.toNat]:=List.getElem?_eq_getElem (by omega)
 obtain hl | ⟨a,b,c⟩:=r.at_
 ·omega
 ·refine ⟨⟨h0,by omega⟩,a,b,l[i.toNat],?_,hk _ hx⟩
  have:=zU c (i:=i.toNat) (by omega)
  rw [Nat.mul_one,this,List.getElem?_map,hx]
  rfl
theorem Rd.ldB {h:H} {s:Sl} {l:List Bool} (r:Rd h s 1 (l.map .bool)) {i:Int} (h0:0≤i) (h1:i<l.length) {K:Bool→Prop} (hk:∀x,l[i.toNat]? = some x→K x):ixS s 1 i fun p=>ldB p h K:=by
 have hlen:l.length=s.len:=by have:=r.len;simp at this;omega
 have hx:l[i.toNat]? = some l[i.toNat]:=List.getElem?_eq_getElem (by omega)
 obtain hl | ⟨a,b,c⟩:=r.at_
 ·omega
 ·refine ⟨⟨h0,by omega⟩,a,b,l[i.toNat],?_,hk _ hx⟩
  have:=zU c (i:=i.toNat) (by omega)
  rw [Nat.mul_one,this,List.getElem?_map,hx]
  rfl
theorem Rd.sread {h:H} {s:Sl} {z:Nat} {cs:List AVal} (r:Rd h s z cs) (hz:0<z):sread h s=some cs:=by
 unfold Cl.sread
 obtain hl | ⟨a,b,c⟩:=r.at_
 ·have:=r.len
  rw [hl,Nat.zero_mul,List.length_eq_zero_iff] at this
  simp [hl,this]
 ·rw [a]
  split
  ·next e=>
   have:=r.len
   rw [e,List.length_eq_zero_iff] at this
   rw [this]
  ·exact c
structure Ow (h:H) (s:Sl) (z:Nat) (cs:List AVal):Prop where
 len:cs.length=s.len*z
 at_:(s.o=none∧s.len=0)∨(∃o,s.o=some o∧s.sz=z∧s.off=0∧s.n=s.len*z∧h[o]? = some (.own cs))
theorem Ow.nil (h:H) (z:Nat):Ow h Sl.nil z []:=⟨by simp [Sl.nil],.inl ⟨rfl,rfl⟩⟩
theorem Ow.rd {h s z cs} (r:Ow h s z cs):Rd h s z cs:=by
 refine ⟨r.len,?_⟩
 obtain ⟨a,b⟩ | ⟨o,a,b,c,d,e⟩:=r.at_
 ·exact .inl b
 ·refine .inr ⟨b,by simp [a],?_⟩
  rw [a,yX (xs:=cs) (by unfold cells;simp [e,d,r.len]) (by rw [r.len];omega),c]
  rw [List.drop_zero,←r.len,List.take_length]
theorem Ow.ext {h h':H} {s z cs} (r:Ow h s z cs) (x:Ext h h'):Ow h' s z cs:=
 ⟨r.len,r.at_.imp id fun ⟨o,a,b,c,d,e⟩=>⟨o,a,b,c,d,x.own e⟩⟩
def But (o:Option Nat) (h h':H):Prop:=h.length≤h'.length∧∀i,i<h.length→o≠some i→h'[i]? = h[i]?
theorem But.refl (o h):But o h h:=⟨Nat.le_refl _,fun _ _ _=>rfl⟩
theorem Ext.but {h h':H} (x:Ext h h') (o):But o h h':=⟨x.len,fun i hi _=>x.get hi⟩
theorem But.ext {h h':H} {o} (b:But o h h') (hn:∀i,o=some i→h.length≤i):Ext h h':=
 Ext.of b.1 fun i hi=>b.2 i hi fun e=>by have:=hn i e;omega
theorem But.get {h h':H} {o:Option Nat} (b:But o h h') {i:Nat} {v:AObj} (e:h[i]? = some v) (hn:o≠some i):h'[i]? = some v:=by
 rw [b.2 i (List.getElem?_eq_some_iff.1 e).1 hn,e]
theorem yk {h:H} {s x:Sl} {z:Nat} {cs xs:List AVal} (hz:0<z) (r:Ow h s z cs) (y:Rd h x z xs) (hl:((s.len+x.len:Nat):Int)≤lim) {K:Sl→H→Prop}
  (hk:∀s' h',Ow h' s' z (cs++xs)→s'.len=s.len+x.len→But s.o h h'→(∀o,s.o=some o→s'.o=some o)→(s.o=none→∀o,s'.o=some o→h.length≤o)→K s' h'):app s x z h K:=by
 have hsr:=y.sread hz
 have hxz:x.len≠0→x.sz=z:=fun hx=>by
  obtain a | ⟨a,_⟩:=y.at_
  ·exact absurd a hx
  ·exact a
 by_cases h0:x.len=0
 ·have hxs:xs=[]:=by have:=y.len;rw [h0,Nat.zero_mul,List.length_eq_zero_iff] at this;exact this
  subst hxs
  exact ⟨_,s,h,hsr,hxz,hl,.zero h0,hk s h (by simpa using r) (by omega) (But.refl _ _) (fun o e=>e) (fun e o e2=>by rw [e] at e2;cases e2)⟩
 ·have hpos:0<x.len:=by omega
  obtain ⟨a,b⟩ | ⟨o,a,b,c,d,e⟩:=r.at_
  ·have hcs:cs=[]:=by have:=r.len;rw [b,Nat.zero_mul,List.length_eq_zero_iff] at this;exact this
   subst hcs
   refine ⟨_,_,_,hsr,hxz,hl,.fresh a hpos,hk _ _ ⟨by simpa using y.len,.inr ⟨h.length,rfl,rfl,rfl,rfl,by simp⟩⟩ (by simp [b]) ⟨by simp,fun i hi _=>zsd _ hi⟩ (fun o e=>by rw [a] at e;cases e) (fun _ o e=>by injection e with e;omega)⟩
  ·have ho:o<h.length:=(List.getElem?_eq_some_iff.1 e).1
   refine ⟨_,_,_,hsr,hxz,hl,.grows (o:=o) (cs:=cs) hpos b a c d.symm (by unfold wi;simp [e,d,r.len]),hk _ _ ⟨by simp [r.len,y.len,Nat.add_mul],.inr ⟨o,rfl,rfl,rfl,by simp [d,Nat.add_mul],by simp [List.getElem?_set,ho]⟩⟩ rfl ⟨by simp,fun i hi hne=>?_⟩ (fun o e=>by rw [a] at e;exact e) (fun e=>by rw [a] at e;cases e)⟩
   rw [List.getElem?_set,if_neg (fun e2=>hne (by rw [a,e2]))]
theorem zj {h:H} {n z:Nat} {cs:List AVal} (hc:cs.length=n*z) {K:Sl→H→Prop} (hk:∀s' h',Ow h' s' z cs→s'.len=n→s'.o=some h.length→h'=h++[.own cs]→K s' h'):newS n z cs h K:=
 hk _ _ ⟨hc,.inr ⟨h.length,rfl,rfl,rfl,rfl,by simp⟩⟩ rfl rfl rfl
theorem qQ {h:H} {n:Int} {z:List AVal} (h0:0≤n) (h1:n≤lim) {K:Sl→H→Prop} (hk:∀s' h',Ow h' s' z.length (List.replicate n.toNat z).flatten→s'.len=n.toNat→s'.o=some h.length→h'=h++[.own (List.replicate n.toNat z).flatten]→K s' h'):mkS n z h K:=
 ⟨⟨h0,h1⟩,hk _ _ ⟨by simp,.inr ⟨h.length,rfl,rfl,rfl,by simp,by simp⟩⟩ rfl rfl rfl⟩
theorem zc {p:Prop} [Decidable p] {a b:Prop} (h1:p→a) (h2:¬p→b):bif decide p then a else b:=by
 by_cases hp:p
 ·rw [decide_eq_true hp];exact h1 hp
 ·rw [decide_eq_false hp];exact h2 hp
theorem yy {c:Bool} {a b:Prop} (h1:c=true→a) (h2:c=false→b):bif c then a else b:=by
 cases c
 ·exact h2 rfl
 ·exact h1 rfl
theorem zr {c:Bool} {a b:Prop} (h1:c=false→a) (h2:c=true→b):bif !c then a else b:=by
 cases c
 ·exact h1 rfl
 ·exact h2 rfl
theorem zF {x y:Int} {a b:Prop} (h1:x≠y→a) (h2:x=y→b):bif x != y then a else b:=by
 by_cases hp:x=y
 ·rw [show (x != y)=false by simp [hp]];exact h2 hp
 ·rw [show (x != y)=true by simp [hp]];exact h1 hp
theorem zp {x y:Int} {a b:Prop} (h1:x=y→a) (h2:x≠y→b):bif x==y then a else b:=by
 by_cases hp:x=y
 ·rw [show (x==y)=true by simp [hp]];exact h1 hp
 ·rw [show (x==y)=false by simp [hp]];exact h2 hp
theorem But.trans {o:Option Nat} {a b c:H} (x:But o a b) (y:But o b c):But o a c:=
 ⟨Nat.le_trans x.1 y.1,fun i hi hn=>by rw [y.2 i (by have:=x.1;omega) hn,x.2 i hi hn]⟩
theorem Ext.but_ {h a b:H} {o:Option Nat} (x:Ext h a) (y:But o a b) (hn:∀i,o=some i→h.length≤i):Ext h b:=
 Ext.of (Nat.le_trans x.len y.1) fun i hi=>by
  rw [y.2 i (by have:=x.len;omega) (fun e=>by have:=hn i e;omega),x.get hi]
theorem zi {n i:Nat} (hn:n≤i):∀j,some i=some j→n≤j:=fun j e=>by cases e;exact hn
theorem But.range {o':Option Nat} {h h':H} (b:But o' h h') {o n off k cs} (e:range h o n off k=some cs) (hn:o'≠o):range h' o n off k=some cs:=by
 obtain ⟨i,xs,rfl,hc,hl,rfl⟩:=zL e
 refine yX ?_ hl
 have:=yC hc
 unfold Cl.cells at hc ⊢
 rw [b.2 i this hn];exact hc
theorem Rd.but {o:Option Nat} {h h':H} {s z cs} (r:Rd h s z cs) (b:But o h h') (hn:o≠s.o∨o=none):Rd h' s z cs:=by
 refine ⟨r.len,r.at_.imp id fun ⟨x,y,e⟩=>⟨x,y,?_⟩⟩
 obtain hn | rfl:=hn
 ·exact b.range e hn
 ·exact b.range e (fun e=>by rw [←e] at y;cases y)
theorem Ow.but {o:Option Nat} {h h':H} {s z cs} (r:Ow h s z cs) (b:But o h h') (hn:o≠s.o∨o=none):Ow h' s z cs:=by
 refine ⟨r.len,r.at_.imp id fun ⟨i,a,x,c,d,e⟩=>⟨i,a,x,c,d,b.get e fun e2=>?_⟩⟩
 obtain hn | rfl:=hn
 ·exact hn (by rw [e2,a])
 ·cases e2
def Fr (n:Nat) (s:Sl):Prop:=∀o,s.o=some o→n≤o
theorem Fr.le {n m:Nat} {s:Sl} (f:Fr n s) (h:m≤n):Fr m s:=fun o e=>Nat.le_trans h (f o e)
theorem Fr.nil (n):Fr n Sl.nil:=fun o e=>by cases e
theorem Ow.lt {h s z cs} (r:Ow h s z cs) {o:Nat} (e:s.o=some o):o<h.length:=by
 obtain ⟨a,_⟩ | ⟨i,a,_,_,_,x⟩:=r.at_
 ·rw [a] at e;cases e
 ·rw [a] at e;cases e;exact (List.getElem?_eq_some_iff.1 x).1
theorem zLV {h:H} {o:Nat} {cs:List AVal} (e:h[o]? = some (.own cs)) {k:Nat} (hk:cs.length=k) {K:List AVal→Prop} (x:K cs):ldA ⟨some o,k,0⟩ k h K:=by
 subst hk
 exact ⟨cs,by rw [yX (xs:=cs) (by unfold cells;simp [e]) (by simp)];simp,x⟩
theorem zLD {h:H} {o:Nat} {cs vs:List AVal} (e:h[o]? = some (.own cs)) {k:Nat} (hk:cs.length=k) (hv:vs.length=k) {K:H→Prop} (x:But (some o) h (h.set o (.own vs))→(h.set o (.own vs))[o]? = some (.own vs)→K (h.set o (.own vs))):stN ⟨some o,k,0⟩ k vs h K:=by
 have ho:o<h.length:=(List.getElem?_eq_some_iff.1 e).1
 refine ⟨_,hv,?_,x ⟨by simp,fun i hi hn=>by rw [List.getElem?_set,if_neg (fun e=>hn (by rw [e]))]⟩ (by simp [List.getElem?_set,ho])⟩
 unfold putN wi yl
 subst hk
 simp [e,hv]
theorem Wb {h:H} {o n len:Nat} {cs:List AVal} {i:Int} {x:Int} (e:h[o]? = some (.own cs)) (hn:cs.length=n) (h0:0≤i) (h1:i<len) (hx:cs[i.toNat]? = some (i64 x)) {K:Int→Prop} (k:K x):ixA ⟨some o,n,0⟩ len 1 i fun p=>ldI .i64 p h K:=by
 refine ⟨⟨h0,h1⟩,rfl,x,?_,k⟩
 unfold cell Pt.add cells
 simp [e,hn,hx,i64]
theorem zIE {l:List Int} {i:Nat} {x:Int} (e:l[i]? = some x):(ic l)[i]? = some (i64 x):=by unfold ic;rw [List.getElem?_map,e];rfl
end Go.Proofs.YtlcgclmobfdbcaaGreat.Cl
set_option linter.unusedVariables false
set_option linter.unusedSimpArgs false
namespace Go.Proofs.YtlcgclmobfdbcaaGreat.Cl
open Go
inductive PD where
 | int (k:IntKind) (n:Int)
 | bool (b:Bool)
 | agg (l:List PD)
 | sl (l:List PD)
inductive Den (P:Program) (h:H):TypeId→List AVal→PD→Prop where
 | int {t k n}:P.underlying t=some (.int k)→(Lit.int k n).wf=true→Den P h t [.int k n] (.int k n)
 | bool {t b}:P.underlying t=some .bool→Den P h t [.bool b] (.bool b)
 | arr {t n e} {ass:List (List AVal)} {ds:List PD}:P.underlying t=some (.array n e)→ass.length=n→ds.length=n→(∀(i:Nat) a d,ass[i]? = some a→ds[i]? = some d→Den P h e a d)→Den P h t ass.flatten (.agg ds)
 | struct {t} {fs:Array Field} {ass:List (List AVal)} {ds:List PD}:P.underlying t=some (.struct fs)→ass.length=fs.size→ds.length=fs.size→(∀(i:Nat) f a d,fs[i]? = some f→ass[i]? = some a→ds[i]? = some d→Den P h f.type a d)→Den P h t ass.flatten (.agg ds)
 | sl {t e} {s:Sl} {ass:List (List AVal)} {ds:List PD}:P.underlying t=some (.slice e)→ass.length=s.len→ds.length=s.len→s.len≤maxLen→Rd h s (P.cellsOf e) ass.flatten→(∀(i:Nat) a d,ass[i]? = some a→ds[i]? = some d→Den P h e a d)→Den P h t [.sl s] (.sl ds)
theorem Den.ext {P:Program} {h h':H} (x:Ext h h') {t as d} (r:Den P h t as d):Den P h' t as d:=by
 induction r with
 | int a b=>exact .int a b
 | bool a=>exact .bool a
 | arr a b c _ ih=>exact .arr a b c ih
 | struct a b c _ ih=>exact .struct a b c ih
 | sl a b c d e _ ih=>exact .sl a b c d (e.ext x) ih
theorem Zk {ass:List (List AVal)} (h:∀a∈ass,∀v∈a,v.isCell=true):∀v∈ass.flatten,v.isCell=true:=by
 intro v hv
 rw [List.mem_flatten] at hv
 obtain ⟨a,ha,hv⟩:=hv
 exact h a ha v hv
theorem zqY {α β :Type} {l:List α} {m:List β} (e:l.length=m.length) {a: α} (h:a∈l):∃(i:Nat) (b: β),l[i]? = some a∧m[i]? = some b:=by
 obtain ⟨i,hi,rfl⟩:=List.mem_iff_getElem.1 h
 exact ⟨i,m[i]'(by omega),List.getElem?_eq_getElem hi,List.getElem?_eq_getElem (by omega)⟩
theorem Den.cells {P:Program} {h:H} {t as d} (r:Den P h t as d):∀v∈as,v.isCell=true:=by
 induction r with
 | int a b=>intro v hv;simp at hv;subst hv;rfl
 | bool a=>intro v hv;simp at hv;subst hv;rfl
 | arr a b c _ ih=>
  refine Zk fun x hx=>?_
  obtain ⟨i,d,h1,h2⟩:=zqY (b.trans c.symm) hx
  exact ih i x d h1 h2
 | @struct t fs ass ds a b c _ ih=>
  refine Zk fun x hx=>?_
  obtain ⟨i,d,h1,h2⟩:=zqY (b.trans c.symm) hx
  have hi:i<fs.size:=by have:=(List.getElem?_eq_some_iff.1 h1).1;omega
  exact ih i fs[i] x d (Array.getElem?_eq_getElem hi) h1 h2
 | sl a b c d e _ ih=>intro v hv;simp at hv;subst hv;rfl
def zgW (P:Program):Nat→List Field→Nat→Bool
 | off,[],tot=>off==tot
 | off,f::l,tot=>f.offset==off&&zgW P (off+P.cellsOf f.type) l tot
def vA (P:Program):Nat→TypeId→Bool
 | 0,_=>false
 | m+1,t=>match P.underlying t with
  | some (.int _)=>true
  | some .bool=>true
  | some (.slice e)=>decide (0<P.cellsOf e)&&vA P m e
  | some (.array n e)=>vA P m e&&P.cellsOf t==n*P.cellsOf e
  | some (.struct fs)=>(fs.toList.all fun f=>vA P m f.type)&&zgW P 0 fs.toList (P.cellsOf t)
  | _=>false
def Z8 (h:H):Prop:=∀(o:Nat) v,h[o]? = some v→∃cs,v = .ro cs
structure Grow (W:World) (μ :Mu) (h:H) (μ':Mu) (h':H):Prop where
 rel:Rel μ' h' W
 ro:Z8 h'
 ext:Ext h h'
 same:∀o,o<h.length→ μ' o = μ o
theorem Grow.refl {W μ h} (r:Rel μ h W) (o:Z8 h):Grow W μ h μ h:=⟨r,o,Ext.refl h,fun _ _=>rfl⟩
theorem Grow.trans {W μ h μ1 h1 μ2 h2} (a:Grow W μ h μ1 h1) (b:Grow W μ1 h1 μ2 h2):Grow W μ h μ2 h2:=
 ⟨b.rel,b.ro,a.ext.trans b.ext,fun o ho=>by rw [b.same o (Nat.lt_of_lt_of_le ho a.ext.len),a.same o ho]⟩
theorem Grow.step {W μ h μ' h'} (g:Grow W μ h μ' h'):Step μ h μ' h':=
 ⟨g.ext.len,fun o e=>by have:=zO e;unfold inf at e ⊢;rw [g.ext.get this];exact e,fun o t m ho e=>⟨t,m,by unfold inf at e ⊢;rw [g.ext.get ho] at e;exact e,Nat.le_refl _,fun _=>⟨rfl,g.same o ho⟩,.inl rfl⟩⟩
section
variable {H':Type} {enc:TypeId×Value→H'} {P:Program} {W:World}
def zNn (P:Program) (W:World) (μ :Mu) (h:H) (t:TypeId) (cs:List Value):Prop:=
 ∃ μ' h' as pd,Grow W μ h μ' h'∧VRs μ' h' as cs∧Den P h' t as pd
theorem qs {Q:TypeId×List Value→Prop} (ih:∀it,Q it→∀ μ h,Rel μ h W→Z8 h→zNn P W μ h it.1 it.2):∀(items:List (TypeId×List Value)),(∀it∈items,Q it)→∀ μ h,Rel μ h W→Z8 h→
  ∃(μ':Mu) (h':H) (ass:List (List AVal)) (pds:List PD),Grow W μ h μ' h'∧VRs μ' h' ass.flatten (items.map (·.2)).flatten∧ass.length=items.length∧pds.length=items.length∧
   ∀(i:Nat) it a d,items[i]? = some it→ass[i]? = some a→pds[i]? = some d→Den P h' it.1 a d∧VRs μ' h' a it.2
 | [],_,μ,h,r,o=>⟨μ,h,[],[],Grow.refl r o,VRs.nil,rfl,rfl,fun i it a d e=>by simp at e⟩
 | it::items,hq,μ,h,r,o=>by
  obtain ⟨μ1,h1,as,pd,g1,v1,d1⟩:=ih it (hq it (by simp)) μ h r o
  obtain ⟨μ2,h2,ass,pds,g2,v2,l1,l2,e2⟩:=qs ih items (fun x hx=>hq x (by simp [hx])) μ1 h1 g1.rel g1.ro
  refine ⟨μ2,h2,as::ass,pd::pds,g1.trans g2,?_,by simp [l1],by simp [l2],?_⟩
  ·simp only [List.flatten_cons,List.map_cons]
   exact (VRs.step g2.step v1).append v2
  ·intro i it' a d x1 x2 x3
   cases i with
   | zero=>
    simp at x1 x2 x3
    subst x1 x2 x3
    exact ⟨d1.ext g2.ext,VRs.step g2.step v1⟩
   | succ i=>exact e2 i it' a d (by simpa using x1) (by simpa using x2) (by simpa using x3)
theorem qZ {α :Type} (z:Nat):∀(n:Nat) (cs:List α),cs.length=n*z→((List.range n).map fun i=>(cs.drop (i*z)).take z).flatten=cs
 | 0,cs,h=>by simp at h;simp [h]
 | n+1,cs,h=>by
  have ih:=qZ z n (cs.drop z) (by simp [h,Nat.add_mul])
  rw [List.range_succ_eq_map,List.map_cons,List.flatten_cons,List.map_map]
  have:((fun i=>(cs.drop (i*z)).take z) ∘ Nat.succ)=fun i=>((cs.drop z).drop (i*z)).take z:=by
   funext i
   simp only [Function.comp,List.drop_drop]
   congr 2
   rw [Nat.succ_mul];omega
  rw [this,ih]
  simp
theorem YW {α :Type} (P:Program) (cs:List α):∀(l:List Field) (off tot:Nat),zgW P off l tot=true→cs.length=tot→(l.map fun f=>(cs.drop f.offset).take (P.cellsOf f.type)).flatten=cs.drop off
 | [],off,tot,h,hl=>by
  simp only [zgW,beq_iff_eq] at h
  simp;omega
 | f::l,off,tot,h,hl=>by
  simp only [zgW,Bool.and_eq_true,beq_iff_eq] at h
  obtain ⟨h1,h2⟩:=h
  subst h1
  rw [List.map_cons,List.flatten_cons,YW P cs l _ tot h2 hl,←List.drop_drop]
  exact List.take_append_drop _ _
theorem zLI {μ :Mu} {h:H} (r:Rel μ h W) (ro:Z8 h) (l:Loc) {as:List AVal} {cs:List Value} (hv:VRs μ h as cs) (hc:∀v∈as,v.isCell=true) (hw:∀(i:Nat) d,cs[i]? = some d→W.cell? (zx l i)=some d):
  Grow W μ h (fun o=>if o=h.length then l else μ o) (h++[.ro as]):=by
 have ro':Z8 (h++[.ro as]):=by
  intro o v e
  by_cases ho:o<h.length
  ·rw [List.getElem?_append_left ho] at e;exact ro o v e
  ·rw [List.getElem?_append_right (by omega)] at e
   have:o-h.length=0:=by have:=(List.getElem?_eq_some_iff.1 e).1;simp at this;omega
   rw [this] at e;simp at e;exact ⟨_,e.symm⟩
 have st:Step μ h (fun o=>if o=h.length then l else μ o) (h++[.ro as]):=
  ⟨by simp,fun o e=>by rw [yg h _ o (zO e)];exact e,fun o t m ho e=>⟨t,m,by unfold inf at e ⊢;rw [List.getElem?_append_left ho] at e;exact e,Nat.le_refl _,fun _=>⟨rfl,by simp [Nat.ne_of_lt ho]⟩,.inl rfl⟩⟩
 refine ⟨⟨fun o cs e=>?_,fun o cs' e i v hv'=>?_,fun o es e=>?_,fun o o' t m t' m' e h1=>?_⟩,ro',Ext.app _ _,fun o ho=>by simp [Nat.ne_of_lt ho]⟩
 ·obtain ⟨_,h⟩:=ro' o _ e;cases h
 ·by_cases ho:o<h.length
  ·rw [List.getElem?_append_left ho] at e
   obtain ⟨h1,d,h2,h3⟩:=r.ro o cs' e i v hv'
   refine ⟨h1,d,?_,VR.step st h3⟩
   simpa [Nat.ne_of_lt ho] using h2
  ·rw [List.getElem?_append_right (by omega)] at e
   have h0:o-h.length=0:=by have:=(List.getElem?_eq_some_iff.1 e).1;simp at this;omega
   rw [h0] at e;simp at e
   subst e
   have:o=h.length:=by omega
   subst this
   obtain ⟨d,h1,h2⟩:=hv.get hv'
   refine ⟨hc v (List.mem_of_getElem? hv'),d,?_,VR.step st h2⟩
   simpa using hw i d h1
 ·obtain ⟨_,h⟩:=ro' o _ e;cases h
 ·exfalso
  unfold inf at e
  split at e
  ·next h2=>obtain ⟨_,h⟩:=ro' o _ h2;cases h
  ·next h2=>cases e;exact h1.1 rfl
  ·next h2=>obtain ⟨_,h⟩:=ro' o _ h2;cases h
  ·next h2=>obtain ⟨_,h⟩:=ro' o _ h2;cases h
  ·cases e
theorem zNz (hsz:P.types.size=P.types.size):∀(m:Nat) (t:TypeId),vA P m t=true→∀(fuel:Nat) (cs:List Value) x,DataW.trod enc P W 0 (fun _=>true) true fuel t cs=some x→∀ μ h,Rel μ h W→Z8 h→zNn P W μ h t cs:=by
 intro m
 induction m with
 | zero=>intro t h;cases h
 | succ m ih=>
  intro t hs fuel cs x hx μ h r o
  unfold vA at hs
  split at hs
  ·next k ht=>
   obtain ⟨n,rfl,_,hw⟩:=DataW.trod_int ht hx
   exact ⟨μ,h,[.int k n],.int k n,Grow.refl r o,VRs.cons (by simp [VR]) VRs.nil,.int ht hw⟩
  ·next ht=>
   obtain ⟨b,rfl,_⟩:=DataW.trod_bool ht hx
   exact ⟨μ,h,[.bool b],.bool b,Grow.refl r o,VRs.cons (by simp [VR]) VRs.nil,.bool ht⟩
  ·next e ht=>
   rw [Bool.and_eq_true,decide_eq_true_eq] at hs
   obtain ⟨hz,hs⟩:=hs
   rcases DataW.trod_slice ht hx with ⟨rfl,_⟩ | ⟨a,len,cap,elems,rest,n,rfl,rfl,_,_,hl,hcm,hlen,hel,_,_⟩
   ·exact ⟨μ,h,[.sl Sl.nil],.sl [],Grow.refl r o,VRs.cons (by simp [VR,SR,Sl.nil]) VRs.nil,.sl (ass:=[]) ht rfl rfl (by simp [Sl.nil]) (Rd.nil _ _) (fun i a d e=>by simp at e)⟩
   ·have hch:∀i,i<len→∃c,W.cells? 0 (a.add (i*P.cellsOf e)) (P.cellsOf e)=some c∧∃y,DataW.trod enc P W 0 (fun _=>true) true n e c=some y:=by
     intro i hi
     have:=hel i hi
     rw [List.getElem?_eq_getElem (by omega)] at this
     obtain ⟨c,h1,h2⟩:=Option.bind_eq_some_iff.1 this
     exact ⟨c,h1,_,h2⟩
    obtain ⟨g,hg⟩:∃g:Nat→List Value,∀i,i<len→W.cells? 0 (a.add (i*P.cellsOf e)) (P.cellsOf e)=some (g i)∧∃y,DataW.trod enc P W 0 (fun _=>true) true n e (g i)=some y:=
     ⟨fun i=>if hi:i<len then Classical.choose (hch i hi) else [],fun i hi=>by
      simp only [hi,dif_pos]
      exact Classical.choose_spec (hch i hi)⟩
    obtain ⟨μ1,h1,ass,pds,g1,v1,l1,l2,e1⟩:=qs (P:=P) (W:=W) (Q:=fun it=>it.1=e∧∃y,DataW.trod enc P W 0 (fun _=>true) true n e it.2=some y)
     (fun it ⟨q1,y,q2⟩ μ h r o=>by rw [q1];exact ih e hs n it.2 y q2 μ h r o) ((List.range len).map fun i=>(e,g i)) (fun it hit=>by
      obtain ⟨i,hi,rfl⟩:=List.mem_map.1 hit
      exact ⟨rfl,(hg i (List.mem_range.1 hi)).2⟩) μ h r o
    rw [List.length_map,List.length_range] at l1 l2
    have hits:∀i,i<len→((List.range len).map fun i=>(e,g i))[i]? = some (e,g i):=fun i hi=>by
     rw [List.getElem?_map,List.getElem?_range hi];rfl
    have hal:∀(i:Nat) c,ass[i]? = some c→c.length=P.cellsOf e:=by
     intro i c hc
     have hi:i<len:=by have:=(List.getElem?_eq_some_iff.1 hc).1;omega
     obtain ⟨_,hv⟩:=e1 i _ c _ (hits i hi) hc (List.getElem?_eq_getElem (by omega))
     rw [←hv.len,(World.cells?_some (hg i hi).1).2.1]
    have hden:∀(i:Nat) c d,ass[i]? = some c→pds[i]? = some d→Den P h1 e c d:=fun i c d hc hd=>by
     have hi:i<len:=by have:=(List.getElem?_eq_some_iff.1 hc).1;omega
     exact (e1 i _ c d (hits i hi) hc hd).1
    have hcells:∀v∈ass.flatten,v.isCell=true:=Zk fun c hc=>by
     obtain ⟨i,d,q1,q2⟩:=zqY (l1.trans l2.symm) hc
     exact (hden i c d q1 q2).cells
    have hfl:(((List.range len).map fun i=>(e,g i)).map (·.2)).flatten=((List.range len).map g).flatten:=by rw [List.map_map];rfl
    rw [hfl] at v1
    have hwat:∀(k:Nat) d,((List.range len).map g).flatten[k]? = some d→W.cell? (a.add k)=some d∧k<len*P.cellsOf e:=by
     have gl:∀i,i<len→(g i).length=P.cellsOf e:=fun i hi=>(World.cells?_some (hg i hi).1).2.1
     have key:∀n',n'≤len→∀(k:Nat) d,((List.range n').map g).flatten[k]? = some d→W.cell? (a.add k)=some d∧k<n'*P.cellsOf e:=by
      intro n'
      induction n' with
      | zero=>intro _ k d hk;simp at hk
      | succ n' ihn=>
       intro hn k d hk
       rw [List.range_succ,List.map_append,List.flatten_append] at hk
       have hll:(((List.range n').map g).flatten).length=n'*P.cellsOf e:=by
        rw [List.length_flatten,List.map_map]
        have:∀q,q≤len→((List.range q).map (List.length ∘ g)).sum=q*P.cellsOf e:=by
         intro q
         induction q with
         | zero=>intro _;simp
         | succ q ihq=>
          intro hq
          rw [List.range_succ,List.map_append,List.sum_append,ihq (by omega)]
          simp [gl q (by omega),Nat.add_mul]
        exact this n' (by omega)
       by_cases hk2:k<n'*P.cellsOf e
       ·rw [List.getElem?_append_left (by omega)] at hk
        obtain ⟨q1,q2⟩:=ihn (by omega) k d hk
        exact ⟨q1,by rw [Nat.add_mul];omega⟩
       ·rw [List.getElem?_append_right (by omega),hll] at hk
        simp only [List.map_cons,List.map_nil,List.flatten_cons,List.flatten_nil,List.append_nil] at hk
        have hk3:=(List.getElem?_eq_some_iff.1 hk).1
        rw [gl n' (by omega)] at hk3
        have:=(World.cells?_some (hg n' (by omega)).1).2.2 (k-n'*P.cellsOf e) hk3
        rw [hk] at this
        refine ⟨?_,by rw [Nat.add_mul];omega⟩
        rw [←this]
        congr 1
        unfold Addr.add
        have hne:P.cellsOf e≠0:=by omega
        by_cases e0:n'*P.cellsOf e=0
        ·have:k-n'*P.cellsOf e=k:=by omega
         simp [e0]
        ·by_cases e3:k-n'*P.cellsOf e=0
         ·have:k=n'*P.cellsOf e:=by omega
          simp [e0,e3,this]
         ·have hk0:k≠0:=by omega
          simp [e0,e3,hk0];omega
     exact key len (Nat.le_refl _)
    have hfirst:0<len→a.spot=none:=by
     intro h0
     obtain ⟨v0,hv0⟩:∃v,((List.range len).map g).flatten[0]? = some v:=by
      have:0<(((List.range len).map g).flatten).length:=by
       have gl:=(World.cells?_some (hg 0 h0).1).2.1
       have hv:(g 0)[0]? = some ((g 0)[0]'(by omega)):=List.getElem?_eq_getElem (by omega)
       exact List.length_pos_of_mem (List.mem_flatten.2 ⟨g 0,List.mem_map_of_mem (List.mem_range.2 h0),List.mem_of_getElem? hv⟩)
      exact ⟨_,List.getElem?_eq_getElem this⟩
     have:=(hwat 0 v0 hv0).1
     unfold Addr.add World.cell? at this
     simp only [if_true] at this
     split at this
     ·cases hsp:a.spot with
      | none=>rfl
      | some q=>rw [hsp] at this;simp at this
     ·cases this
    have g2:=zLI g1.rel g1.ro ⟨a.block,a.off,0⟩ v1 hcells (fun k d hk=>by
     obtain ⟨q1,q2⟩:=hwat k d hk
     have h0:0<len:=by
      rcases Nat.eq_zero_or_pos len with e0 | e0
      ·subst e0;simp at hk
      ·exact e0
     rw [←q1]
     congr 1
     unfold zx Addr.add
     split
     ·next e0=>
      subst e0
      obtain ⟨b1,o1,s1⟩:=a
      have:=hfirst h0
      simp only at this
      subst this
      rfl
     ·rfl)
    have hflen:ass.flatten.length=len*P.cellsOf e:=by
     rw [List.length_flatten]
     have:∀(l:List (List AVal)),(∀c∈l,c.length=P.cellsOf e)→(l.map List.length).sum=l.length*P.cellsOf e:=by
      intro l
      induction l with
      | nil=>intro _;simp
      | cons c l ihl=>
       intro hl
       rw [List.map_cons,List.sum_cons,ihl (fun c hc=>hl c (by simp [hc])),hl c (by simp),List.length_cons,Nat.add_mul]
       omega
     rw [this ass (fun c hc=>by
      obtain ⟨i,hi,rfl⟩:=List.mem_iff_getElem.1 hc
      exact hal i _ (List.getElem?_eq_getElem hi)),l1]
    refine ⟨_,_,[.sl ⟨some h1.length,len*P.cellsOf e,0,len,P.cellsOf e⟩],.sl pds,g1.trans g2,VRs.cons ?_ VRs.nil,.sl (ass:=ass) ht l1 l2 (by show len≤maxLen;omega) ⟨hflen,.inr ⟨rfl,rfl,?_⟩⟩ fun i c d q1 q2=>(hden i c d q1 q2).ext g2.ext⟩
    ·simp only [VR,SR]
     refine ⟨by unfold inf;simp,hz,a,cap,rfl,hl,fun t m he=>?_⟩
     have:inf (h1++[.ro ass.flatten]) h1.length=some (1,len*P.cellsOf e):=by unfold inf;simp [hflen]
     rw [this] at he
     cases he
     refine ⟨Nat.le_refl _,fun _=>⟨?_,by simp,?_,fun e0=>by cases e0⟩⟩
     ·have:=Nat.mul_le_mul_right (P.cellsOf e) hl;omega
     ·by_cases h0:len=0
      ·exact .inl ⟨by simp [h0],rfl⟩
      ·refine .inr (.inr ?_)
       obtain ⟨b1,o1,s1⟩:=a
       have:=hfirst (by omega)
       simp only at this
       subst this
       simp [zx]
    ·show Cl.range (h1++[.ro ass.flatten]) (some h1.length) (len*P.cellsOf e) 0 (len*P.cellsOf e)=some ass.flatten
     rw [yX (xs:=ass.flatten) (by unfold Cl.cells;simp [hflen]) (by omega),List.drop_zero,←hflen,List.take_length]
  ·next n e ht=>
   rw [Bool.and_eq_true,beq_iff_eq] at hs
   obtain ⟨hs,hsz⟩:=hs
   obtain ⟨xs,mm,rfl,_,hcl,hxl,hel⟩:=DataW.trod_array ht hx
   obtain ⟨μ1,h1,ass,pds,g1,v1,l1,l2,e1⟩:=qs (P:=P) (W:=W) (Q:=fun it=>it.1=e∧∃y,DataW.trod enc P W 0 (fun _=>true) true mm e it.2=some y)
    (fun it ⟨q1,y,q2⟩ μ h r o=>by rw [q1];exact ih e hs mm it.2 y q2 μ h r o) ((List.range n).map fun i=>(e,(cs.drop (i*P.cellsOf e)).take (P.cellsOf e))) (fun it hit=>by
     obtain ⟨i,hi,rfl⟩:=List.mem_map.1 hit
     have hi:=List.mem_range.1 hi
     exact ⟨rfl,xs[i]'(by omega),by rw [hel i hi];exact List.getElem?_eq_getElem (by omega)⟩) μ h r o
   rw [List.length_map,List.length_range] at l1 l2
   rw [List.map_map] at v1
   have:=qZ (P.cellsOf e) n cs (by omega)
   rw [show ((fun x:TypeId×List Value=>x.2) ∘ fun i=>(e,(cs.drop (i*P.cellsOf e)).take (P.cellsOf e)))=fun i=>(cs.drop (i*P.cellsOf e)).take (P.cellsOf e) from rfl,this] at v1
   refine ⟨μ1,h1,_,.agg pds,g1,v1,.arr ht l1 l2 fun i a d q1 q2=>?_⟩
   have hi:i<n:=by have:=(List.getElem?_eq_some_iff.1 q1).1;omega
   exact (e1 i _ a d (by rw [List.getElem?_map,List.getElem?_range hi];rfl) q1 q2).1
  ·next fs ht=>
   rw [Bool.and_eq_true,List.all_eq_true] at hs
   obtain ⟨hs,hoff⟩:=hs
   obtain ⟨xs,mm,rfl,_,hcl,hxl,hel⟩:=DataW.trod_struct ht hx
   obtain ⟨μ1,h1,ass,pds,g1,v1,l1,l2,e1⟩:=qs (P:=P) (W:=W) (Q:=fun it=>vA P m it.1=true∧∃y,DataW.trod enc P W 0 (fun _=>true) true mm it.1 it.2=some y)
    (fun it ⟨q1,y,q2⟩ μ h r o=>ih it.1 q1 mm it.2 y q2 μ h r o) (fs.toList.map fun f=>(f.type,(cs.drop f.offset).take (P.cellsOf f.type))) (fun it hit=>by
     obtain ⟨f,hf,rfl⟩:=List.mem_map.1 hit
     obtain ⟨i,hi,rfl⟩:=List.mem_iff_getElem.1 hf
     have hi':i<fs.size:=by simpa using hi
     refine ⟨hs _ (List.getElem_mem _),xs[i]'(by omega),?_⟩
     have:=hel i fs[i] (Array.getElem?_eq_getElem hi')
     simp only [Array.getElem_toList]
     rw [this];exact List.getElem?_eq_getElem (by omega)) μ h r o
   rw [List.length_map,Array.length_toList] at l1 l2
   rw [List.map_map] at v1
   have:=YW P cs fs.toList 0 (P.cellsOf t) hoff hcl
   rw [show ((fun x:TypeId×List Value=>x.2) ∘ fun f:Field=>(f.type,(cs.drop f.offset).take (P.cellsOf f.type)))=fun f:Field=>(cs.drop f.offset).take (P.cellsOf f.type) from rfl,this,List.drop_zero] at v1
   refine ⟨μ1,h1,_,.agg pds,g1,v1,.struct ht l1 l2 fun i f a d q0 q1 q2=>?_⟩
   exact (e1 i (f.type,_) a d (by rw [List.getElem?_map,Array.getElem?_toList,q0];rfl) q1 q2).1
  ·cases hs
end
end Go.Proofs.YtlcgclmobfdbcaaGreat.Cl
set_option linter.unusedVariables false
set_option linter.unusedSimpArgs false
namespace Go.Proofs.YtlcgclmobfdbcaaGreat.Cl
open Go Go.RowKit
section
variable {H':Type} {enc:TypeId×Value→H'} {P:Program} {W:World}
theorem VRs.head {μ h c d} (v:VRs μ h [c] [d]):VR μ h c d:=by
 simp only [VRs] at v
 obtain ⟨d',ds,e,h1,h2⟩:=v
 cases e;exact h1
def argV (P:Program) (t:TypeId) (as:List AVal):AVal:=match P.underlying t with
 | some (.struct _)=> .agg as
 | some (.array _ _)=> .agg as
 | _=>as.headD .undef
def zLy (P:Program) (h:H) (t:TypeId) (a:AVal):Prop:=∃as pd,Den P h t as pd∧a=argV P t as
theorem zbk (m:Nat) {W0:World} {r0:Reach} {b0:Nat}:∀(ts:List TypeId),(ts.all (vA P m))=true→∀(vs:List Value) (ds:List (DataW H')) ps,(∀(j:Nat) t v,ts[j]? = some t→vs[j]? = some v→Value.okWide P W0 r0 b0 t v)→DataW.TrodAll enc P W 0 (fun _=>true) true ts vs ds ps→
  ∀ μ h,Rel μ h W→Z8 h→∃(μ':Mu) (h':H) (as:List AVal),Grow W μ h μ' h'∧VRs μ' h' as vs∧as.length=ts.length∧∀(i:Nat) t a,ts[i]? = some t→as[i]? = some a→zLy P h' t a
 | [],_,vs,ds,ps,_,ht,μ,h,r,o=>by
  cases vs with
  | nil=>exact ⟨μ,h,[],Grow.refl r o,VRs.nil,rfl,fun i t a e=>by simp at e⟩
  | cons v vs=>cases ds <;> exact ht.elim
 | t::ts,hs,vs,ds,ps,hok,ht,μ,h,r,o=>by
  cases vs with
  | nil=>cases ds <;> exact ht.elim
  | cons v vs=>
   cases ds with
   | nil=>exact ht.elim
   | cons d ds=>
    obtain ⟨p,q,⟨fuel,h1⟩,h2,rfl⟩:=ht
    rw [List.all_cons,Bool.and_eq_true] at hs
    obtain ⟨μ1,h1',as,pd,g1,v1,d1⟩:=zNz rfl m t hs.1 fuel _ _ h1 μ h r o
    obtain ⟨μ2,h2',as2,g2,v2,l2,e2⟩:=zbk m ts hs.2 vs ds q (fun j t v a b=>hok (j+1) t v (by simpa using a) (by simpa using b)) h2 μ1 h1' g1.rel g1.ro
    have hv:VR μ1 h1' (argV P t as) v:=by
     have ho:=hok 0 t v rfl rfl
     unfold Value.okWide at ho
     unfold argV
     split at ho
     ·next fs hu=>
      obtain ⟨cs,rfl,_,_⟩:=ho
      rw [hu]
      simp only [VR]
      exact ⟨cs,rfl,v1,by rw [List.all_eq_true];exact d1.cells⟩
     ·next n e hu=>
      obtain ⟨cs,rfl,_,_⟩:=ho
      rw [hu]
      simp only [VR]
      exact ⟨cs,rfl,v1,by rw [List.all_eq_true];exact d1.cells⟩
     ·next n1 n2=>
      have key:(∃k,P.underlying t=some (.int k))∨P.underlying t=some .bool∨(∃e,P.underlying t=some (.slice e))→v.cells.toList=[v]:=by
       intro hu
       cases v <;> first
        | rfl
        |(exfalso
          rcases hu with ⟨k,hu⟩ | hu | ⟨e,hu⟩ <;> (unfold Cell.okWide Cell.ok at ho;rw [hu] at ho;simp at ho))
      cases d1 with
      | int hu hw=>rw [key (.inl ⟨_,hu⟩)] at v1;rw [hu];exact VRs.head v1
      | bool hu=>rw [key (.inr (.inl hu))] at v1;rw [hu];exact VRs.head v1
      | arr hu=>exact absurd hu (n2 _ _)
      | struct hu=>exact absurd hu (n1 _)
      | sl hu=>rw [key (.inr (.inr ⟨_,hu⟩))] at v1;rw [hu];exact VRs.head v1
    refine ⟨μ2,h2',argV P t as::as2,g1.trans g2,VRs.cons (VR.step g2.step hv) v2,by simp [l2],fun i t' a x1 x2=>?_⟩
    cases i with
    | zero=>
     simp at x1 x2
     subst x1 x2
     exact ⟨as,pd,d1.ext g2.ext,rfl⟩
    | succ i=>exact e2 i t' a (by simpa using x1) (by simpa using x2)
theorem zIx {μ :Mu} {h:H} (o:Z8 h) (b:Nat):¬Mine μ h b:=by
 rintro ⟨i,t,m,e,h1,_⟩
 unfold inf at e
 split at e
 ·next h2=>obtain ⟨_,h⟩:=o i _ h2;cases h
 ·next h2=>cases e;exact h1.1 rfl
 ·next h2=>obtain ⟨_,h⟩:=o i _ h2;cases h
 ·next h2=>obtain ⟨_,h⟩:=o i _ h2;cases h
 ·cases e
theorem zIn (μ :Mu) (W:World):Rel μ [] W:=
 ⟨fun o cs e=>by simp at e,fun o cs e=>by simp at e,fun o es e=>by simp at e,fun o o' t m t' m' e=>by simp [inf] at e⟩
theorem law_calls {f:Nat} {ts:List TypeId} (m:Nat) (hs:ts.all (vA P m)=true)
  (hlaw:∀(h:H) (as:List AVal),as.length=ts.length→(∀(i:Nat) t a,ts[i]? = some t→as[i]? = some a→zLy P h t a)→callB (Sat P) f as h fun b _=>b=true)
  {args:Array Value} {ds:List (DataW H')} {ps:List MemPlace} {r0:Reach} {b0:Nat} (hok:∀(j:Nat) t v,ts[j]? = some t→args[j]? = some v→Value.okWide P W r0 b0 t v) (ht:DataW.TrodAll enc P W 0 (fun _=>true) true ts args.toList ds ps):
  Calls P f args W fun e W'=>e = .returned (.bool true)∧Below W.heap.size W W':=by
 obtain ⟨μ,h,as,g,v,l,ha⟩:=zbk (P:=P) (W:=W) (enc:=enc) m ts hs args.toList ds ps (fun j t v a b=>hok j t v a (by simpa using b)) ht (fun _=>⟨0,0,0⟩) [] (zIn _ _) (fun o v e=>by simp at e)
 obtain ⟨b,h',hsat,rfl⟩:=hlaw h as l ha
 refine (hsat.2 μ W args.toList g.rel v).mono fun e W' ⟨x,μ',he,tr,hx⟩=>?_
 simp only [VR] at hx
 subst hx
 exact ⟨he,tr.keep.os,tr.keep.tape,tr.keep.output,tr.keep.size,fun k hk=>tr.keep.block k hk (zIx g.ro k)⟩
theorem zgM {W':World} (b:Below W.heap.size W W') {p:MemPlace} (hp:p.block<W.heap.size):W.sameAt W' p:=by
 cases p with
 | cell c off=>
  show W'.cell? _=W.cell? _
  unfold World.cell?
  rw [b.block c hp]
 | map c=>exact b.block c hp
theorem args_stay (hl:laidOutB P=true) (hm:mapsRowed P=true) (hsl:((List.range P.types.size).all fun t=>match P.underlying t with | some (.slice e)=>decide (0<P.cellsOf e) | _=>true)=true) {W':World} (b:Below W.heap.size W W'):
  ∀{ts:List TypeId} {vs:List Value} {ds:List (DataW H')} {ps:List MemPlace},(∀t∈ts,t<P.types.size)→DataW.TrodAll enc P W 0 (fun _=>true) true ts vs ds ps→DataW.TrodAll enc P W' 0 (fun b=>decide (b<W.heap.size)) true ts vs ds ps
 | [],[],[],ps,_,h=>h
 | t::ts,v::vs,d::ds,ps,ht,⟨p,q,⟨n,h1⟩,h2,e⟩=>by
  have hlt:=DataW.trod_lt n _ _ _ h1
  exact ⟨p,q,⟨n,DataW.trod_stays (kids_rows hl hm) (fun ht hu=>slices_full_of P hsl _ _ ht hu) (fun e=>by cases e) (ht t (by simp)) h1 (fun p hp=>zgM b (hlt p hp)) (fun p hp=>decide_eq_true (hlt p hp))⟩,args_stay hl hm hsl b (fun t h=>ht t (by simp [h])) h2,e⟩
theorem lt_of_all {ts:List TypeId} (h:(ts.all fun t=>decide (t<P.types.size))=true):∀t∈ts,t<P.types.size:=fun t ht=>by
 simpa using List.all_eq_true.1 h t ht
end
end Go.Proofs.YtlcgclmobfdbcaaGreat.Cl
