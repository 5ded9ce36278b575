/- Contracts of functions, joined. No claim is stated here. -/
import Derived.Test.YtlcgclmobfdbcaaGreatFb1
import Derived.Test.YtlcgclmobfdbcaaGreatFb0
import Derived.Test.YtlcgclmobfdbcaaGreatFa2
import Derived.RangeFuncNested
import Derived.RangeFuncLeaves
import Derived.RangeFuncCalls
import Derived.LoopNIn
import Derived.Shelf.SlSortCmp.InsertionK
import Derived.Shelf.SlSortCmp.NoneTotal
import Derived.Ground.SlsfProg
set_option linter.unusedVariables false
set_option linter.unusedSimpArgs false
namespace Go.Proofs.YtlcgclmobfdbcaaGreat.Cl
open Go
theorem Rd.ixO {h:H} {s:Sl} {z:Nat} {cs:List AVal} (r:Rd h s z cs) {i:Int} (h0:0≤i) (h1:i<s.len) {K:Pt→Prop}
  (hk:∀p:Pt,p.o=s.o→range h p.o p.n p.off z=some ((cs.drop (i.toNat*z)).take z)→K p):ixS s z i K:=by
 obtain hl | ⟨a,b,c⟩:=r.at_
 ·omega
 ·refine ⟨⟨h0,h1⟩,a,b,hk ⟨s.o,s.n,s.off+i.toNat*z⟩ rfl ?_⟩
  refine vE c ?_
  have:(i.toNat+1)*z≤s.len*z:=Nat.mul_le_mul_right _ (by omega)
  rw [Nat.add_mul] at this;omega
theorem znn {cs:List AVal} {h:H} {n:Nat} (hn:n<h.length) {K:Pt→H→Prop} (hk:∀h',Obj h' n cs→But (some n) h h'→h'.length=h.length→K ⟨some n,cs.length,0⟩ h'):zlD cs h n K:=
 hk _ (by unfold Obj;simp [hn]) ⟨by simp,fun i hi hne=>by rw [List.getElem?_set,if_neg (fun e=>hne (by rw [e]))]⟩ (by simp)
theorem sne {a b:Nat} (h:a≠b):some a≠some b:=fun e=>h (Option.some.inj e)
def FilC (c:Int) (u q bq pw cn al:Sl):List AVal:=[i64 c,.sl u,.sl q,.sl bq,.sl pw,.sl cn,.sl al]
def powL (c w:Nat):List Int:=(List.range (w+1)).map fun k=>((c^k:Nat):Int)
theorem Zb {c w k:Nat} (h:k≤w):(powL c w).getD k 0=((c^k:Nat):Int):=by
 unfold powL
 rw [List.getD_eq_getElem?_getD,List.getElem?_map,List.getElem?_range (by omega)];rfl
theorem wR (c w:Nat):(powL c w).length=w+1:=by unfold powL;simp
structure FilH (c:Int) (ts:List Tile) (plan borders:List (List Int)) (u q bq pw:Sl) (h:H):Prop where
 ru:Rd h u 4 (tcs ts)
 rq:RdSS h q plan
 rb:RdSS h bq borders
 rp:Rd h pw 1 (ic (powL c.toNat (rw_ plan 0).length))
theorem FilH.ext {c ts plan borders u q bq pw} {h h':H} (f:FilH c ts plan borders u q bq pw h) (x:Ext h h'):FilH c ts plan borders u q bq pw h':=
 ⟨f.ru.ext x,f.rq.ext x,f.rb.ext x,f.rp.ext x⟩
section
variable {c:Int} {ts:List Tile} {plan borders:List (List Int)} {u q bq pw cn al:Sl} {fo:Nat}
theorem zEx (hp:zJ c ts.length plan borders) {h:H} {a4 a14 i:Nat} (f:FilH c ts plan borders u q bq pw h) (ob:Obj h fo (FilC c u q bq pw cn al)) (v4:Var h a4 (.ptr ⟨some fo,7,0⟩)) (o14:Obj h a14 (tc (tat ts i))) {side k:Nat} (hs:side<4) (hk:k<if side%2=1 then (rw_ plan 0).length else plan.length):
  callB SP qT [i64 side,i64 k,.ptr (pt a4),.ptr ⟨some a14,4,0⟩] h fun r h'=>r=brd ts borders side k i∧h'=h:=by
 have hlen:=(hp.2.2.2 side hs).1
 have hbl:=hp.2.2.1
 apply zxo
 unfold WX
 refine v4.ldP ⟨rfl,rfl,ob.ldS (i:=3) rfl rfl ?_⟩
 refine f.rb.ldG (by omega) (by omega) fun v rv lv=>?_
 rw [Int.toNat_natCast] at lv
 refine zp (fun q0=>⟨_,rfl,by unfold brd;rw [show ((rw_ borders side).length==0)=true by rw [beq_iff_eq];omega];rfl,rfl⟩) (fun q0=>?_)
 refine v4.ldP ⟨rfl,rfl,ob.ldS (i:=3) rfl rfl ?_⟩
 refine f.rb.ldG (by omega) (by omega) fun v rv lv=>?_
 rw [Int.toNat_natCast] at rv lv
 have hk2:k<(rw_ borders side).length:=by
  rcases hlen with h | h
  ·omega
  ·rw [h];exact hk
 refine rv.ldG (by omega) (by omega) ?_
 rw [Int.toNat_natCast]
 refine o14.sdI (by omega) (by omega) ⟨_,rfl,?_,rfl⟩
 rw [Int.toNat_natCast]
 unfold brd
 rw [show ((rw_ borders side).length==0)=false by rw [beq_eq_false_iff_ne];omega,Bool.false_or]
 rfl
theorem zCb (hs:setOK c ts) (hp:zJ c ts.length plan borders) {h:H} {a4 a6 a15 s:Nat} (f:FilH c ts plan borders u q bq pw h) (ob:Obj h fo (FilC c u q bq pw cn al)) (v4:Var h a4 (.ptr ⟨some fo,7,0⟩)) (v6:Var h a6 (i64 s)) (v15:Var h a15 (i64 c)) (hsl:s≤46656) {k:Nat} (hk:k≤(rw_ plan 0).length):
  callI SP .i64 wJ [i64 k,.ptr (pt a6),.ptr (pt a4),.ptr (pt a15)] h fun r h'=>r=((dig c.toNat s k:Nat):Int)∧h'=h:=by
 obtain ⟨d1,d2,d3,d4,d5,d6,d7,d8,d9⟩:=dims hs hp
 apply zxn
 unfold WW
 refine v6.ldI (v4.ldP ⟨rfl,rfl,ob.ldS (i:=4) rfl rfl ?_⟩)
 refine f.rp.ldG (by omega) (by rw [wR];omega) ?_
 rw [Int.toNat_natCast,Zb hk]
 have hp0:0<c.toNat^k:=Nat.pow_pos d2
 refine ⟨by omega,v15.ldI ⟨by omega,_,rfl,?_,rfl⟩⟩
 rw [xD,vt (by omega)]
 have:Int.tmod ((s/c.toNat^k:Nat):Int) c=Int.tmod ((s/c.toNat^k:Nat):Int) (c.toNat:Int):=by rw [d3]
 rw [this,xO]
 rfl
theorem zIf {D:Dp} (ok:D.OK) {s p i:Nat} (hi:i<D.n) (hb:D.c^(D.w+1)≤46656) (hs:s<D.c^(D.w+1)):
  w64 (w64 ((s:Int)+w64 (w64 ((D.so i:Int)-(dig D.c s (p%D.w):Nat))*((D.c^(p%D.w):Nat):Int)))-w64 (((dig D.c s D.w:Nat):Int)*((D.c^D.w:Nat):Int)))=(setD D.c (p%D.w) (D.so i) (s%D.top):Int):=by
 have ht:D.c^D.w≤46656:=by
  rw [Nat.pow_succ] at hb
  have:=Nat.mul_le_mul_left (D.c^D.w) ok.hc
  omega
 have b1:=zgJ ok hi (s:=s) (p:=p) ht
 have h1:=ziU D.c (p%D.w) (D.so i) (s%D.top)
 rw [show D.top=D.c^D.w from rfl,vV (Nat.mod_lt _ ok.hw)] at h1
 have h2:=Nat.div_add_mod s (D.c^D.w)
 have h3:((D.c^D.w*(s/D.c^D.w):Nat):Int)+((s%D.c^D.w:Nat):Int)=s:=by exact_mod_cast h2
 have hc:D.c≤46656:=by
  have:=Nat.pow_le_pow_right ok.hc (show 1≤D.w+1 by omega)
  rw [Nat.pow_one] at this;omega
 have h4:=ok.so i hi
 have h5:=zHT ok.hc (v:=s) (k:=p%D.w)
 have e1:w64 ((D.so i:Int)-(dig D.c s (p%D.w):Nat))=(D.so i:Int)-(dig D.c s (p%D.w):Nat):=zf (by omega) (by omega)
 rw [zla hs,e1,←Int.natCast_mul,Nat.mul_comm (s/D.c^D.w)]
 obtain ⟨A,hA⟩:∃A,((D.so i:Int)-(dig D.c s (p%D.w):Nat))*((D.c^(p%D.w):Nat):Int)=A:=⟨_,rfl⟩
 obtain ⟨B,hB⟩:∃B,D.c^D.w*(s/D.c^D.w)=B:=⟨_,rfl⟩
 obtain ⟨M,hM⟩:∃M,s%D.c^D.w=M:=⟨_,rfl⟩
 rw [show D.top=D.c^D.w from rfl]
 rw [hA] at b1 h1 ⊢
 rw [hB] at h2 h3 ⊢
 rw [hM] at h1 h2 h3 ⊢
 rw [zf (n:=A) (by omega) (by omega),zf (n:=(s:Int)+A) (by omega) (by omega),zf (n:=(B:Int)) (by omega) (by omega),zf (by omega) (by omega),h1]
 omega
theorem zEw:∀P A0 B0 A1 B1 A2 B2 A3 B3 N V:Bool,((!P&&(!((A0 && !B0)||(A1 && !B1))&&((A2||B2)&&(A3||B3))))&&(A1||N)&&(A0||V)) =
  (!P&&(!((A1 && !B1)||(!A1 && !N))&&(!((A0 && !B0)||(!A0 && !V)) && !((!A3 && !B3)||(!A2 && !B2))))):=by decide
set_option maxHeartbeats 1000000 in
theorem zlZ (hs:setOK c ts) (hp:zJ c ts.length plan borders) {h:H} (f:FilH c ts plan borders u q bq pw h) (ob:Obj h fo (FilC c u q bq pw cn al)) {s p i:Nat} (hsl:s<(dpOf c ts plan borders).c^((dpOf c ts plan borders).w+1)) (hi:i<ts.length) (hpl:p<plan.length*(rw_ plan 0).length):
  callV SP Wg [.ptr ⟨some fo,7,0⟩,i64 p,i64 s,i64 i] h fun v h'=>v = .tuple [i64 (if (dpOf c ts plan borders).can s p i=true then ((dpOf c ts plan borders).stepI s p i:Int) else 0),.bool ((dpOf c ts plan borders).can s p i)]∧Ext h h':=by
 obtain ⟨d1,d2,d3,d4,d5,d6,d7,d8,d9⟩:=dims hs hp
 have ok:=wF hs hp
 have hb:(dpOf c ts plan borders).c^((dpOf c ts plan borders).w+1)≤46656:=zV d1 (by show (rw_ plan 0).length+1≤6;omega)
 have hst:=zIf ok (p:=p) hi hb hsl
 have hs46:s≤46656:=by omega
 obtain ⟨y1,x1'⟩:=Yj d4 hpl
 have hql:=f.rq.len
 have htl:=f.ru.tlen
 have e0:=yO hs hi (k:=0) (by omega)
 have e1:=yO hs hi (k:=1) (by omega)
 have e2:=yO hs hi (k:=2) (by omega)
 have e3:=yO hs hi (k:=3) (by omega)
 suffices HK:∀K0:AVal→H→Prop,(∀h',Ext h h'→(dpOf c ts plan borders).can s p i=false→K0 (.tuple [.int .i64 0,.bool false]) h')→(∀h',Ext h h'→(dpOf c ts plan borders).can s p i=true→K0 (.tuple [i64 ((dpOf c ts plan borders).stepI s p i:Nat),.bool true]) h')→callV SP Wg [.ptr ⟨some fo,7,0⟩,i64 p,i64 s,i64 i] h K0 from
  HK _ (fun h' x e=>⟨by rw [e];rfl,x⟩) (fun h' x e=>⟨by rw [e];rfl,x⟩)
 intro K0 hKf0 hKt0
 apply zzm
 unfold ZX VX
 refine yQ fun h1 v4 x1 l1=>?_
 refine yQ fun h3 v6 x3 l3=>?_
 have v4:=v4.ext x3
 have x13:=x1.trans x3
 rw [zzl]
 unfold zkB VM
 have f3:=f.ext x13
 have ob3:=ob.ext x13
 refine v4.ldP ⟨rfl,rfl,ob3.ldS (i:=2) rfl rfl ?_⟩
 refine v4.ldP ⟨rfl,rfl,ob3.ldS (i:=2) rfl rfl ?_⟩
 refine f3.rq.ldG (i:=0) (by omega) (by omega) fun v0 rv0 lv0=>?_
 replace lv0:v0.len=(rw_ plan 0).length:=lv0
 clear rv0
 rw [zzk]
 unfold zkA VL
 rw [lv0,hql]
 refine ⟨by omega,by omega,?_⟩
 rw [xD,xO,vt (by omega),zzj]
 unfold zkz VK
 refine qf fun k0 xk lk=>?_
 have v4k:=v4.ext xk
 have v6k:=v6.ext xk
 have fk:=f3.ext xk
 have obk:=ob3.ext xk
 have obl:=ob.lt
 refine v4k.ldP ⟨rfl,rfl,rfl,obk.ldS (i:=1) rfl rfl ?_⟩
 refine fk.ru.ixO (by omega) (by omega) fun p3 po3 hp3=>?_
 rw [Int.toNat_natCast,zgz ts i _ (zAF (n:=((i:Nat):Int)) (by rw [Int.toNat_natCast];exact hi))] at hp3
 have hu3:∀o,p3.o=some o→o<h.length:=fun o eo=>by
  obtain hl | ⟨_,_,cc⟩:=f.ru.at_
  ·omega
  ·obtain ⟨o',xs,w1,w2,_⟩:=zL cc
   rw [po3] at eo;rw [eo] at w1;cases w1
   exact yC w2
 have hne:∀n,h.length≤n→some n≠p3.o:=fun n hn e=>by have:=hu3 n e.symm;omega
 refine ⟨_,hp3,?_⟩
 refine v4k.ldP ⟨rfl,rfl,rfl,obk.ldI (i:=0) (m:=c) rfl rfl ?_⟩
 refine znn (by omega) fun h8 o8 b8 n8=>?_
 have ob8:=obk.but b8 (sne (by omega))
 have v48:=v4k.but b8 (sne (by omega))
 have r8:=b8.range hp3 (hne _ (by omega))
 refine ⟨(ob8.cellE (i:=0) rfl).trans (obk.cellE (i:=0) rfl).symm,v48.cell.trans v4k.cell.symm,r8.trans hp3.symm,(ob8.cellE (i:=1) rfl).trans (obk.cellE (i:=1) rfl).symm,v48.cell.trans v4k.cell.symm,?_⟩
 refine znm (by omega) fun h10 v15 b10 n10=>?_
 have ob10:=ob8.but b10 (sne (by omega))
 have v410:=v48.but b10 (sne (by omega))
 have r10:=b10.range r8 (hne _ (by omega))
 have o10:=o8.but b10 (sne (by omega))
 refine ⟨(ob10.cellE (i:=0) rfl).trans (obk.cellE (i:=0) rfl).symm,v410.cell.trans v4k.cell.symm,r10.trans hp3.symm,(ob10.cellE (i:=1) rfl).trans (obk.cellE (i:=1) rfl).symm,v410.cell.trans v4k.cell.symm,?_⟩
 refine o10.stA fun h11 o11 b11 n11=>?_
 have ob11:=ob10.but b11 (sne (by omega))
 have v411:=v410.but b11 (sne (by omega))
 refine ⟨(ob11.cellE (i:=0) rfl).trans (obk.cellE (i:=0) rfl).symm,v411.cell.trans v4k.cell.symm,?_⟩
 refine (v15.but b11 (sne (by omega))).st _ fun g v15 b12 n12=>?_
 have xg:Ext h3 g:=(((xk.but_ b8 (zi (by omega))).but_ b10 (zi (by omega))).but_ b11 (zi (by omega))).but_ b12 (zi (by omega))
 have o14:=o11.but b12 (sne (by omega))
 have v4:=v4.ext xg
 have v6:=v6.ext xg
 have f:=f3.ext xg
 have ob:=ob3.ext xg
 have xh:=x13.trans xg
 rw [zzi]
 unfold zky VJ
 rw [zzh]
 unfold zkx VI
 rw [zzg]
 unfold zkw VH
 have hKf:=hKf0 g xh
 have hKt:=hKt0 g xh
 have hcan:(dpOf c ts plan borders).can s p i=(bOK ts plan borders (p/(rw_ plan 0).length) (p%(rw_ plan 0).length) i&&(p/(rw_ plan 0).length==0||dig c.toNat s (p%(rw_ plan 0).length)==(sd (tat ts i) 1).toNat)&&(p%(rw_ plan 0).length==0||dig c.toNat s (rw_ plan 0).length==(sd (tat ts i) 0).toNat)):=rfl
 have hstI:(dpOf c ts plan borders).stepI s p i=setD c.toNat (p%(rw_ plan 0).length) (sd (tat ts i) 3).toNat (s%c.toNat^(rw_ plan 0).length)+if p%(rw_ plan 0).length+1<(rw_ plan 0).length then (sd (tat ts i) 2).toNat*c.toNat^(rw_ plan 0).length else 0:=rfl
 have hsi:=Dp.stepI_lt ok (p:=p) (r:=s) hi
 replace hst:w64 (w64 ((s:Int)+w64 (w64 (((sd (tat ts i) 3).toNat:Int)-(dig c.toNat s (p%(rw_ plan 0).length):Nat))*((c.toNat^(p%(rw_ plan 0).length):Nat):Int)))-w64 (((dig c.toNat s (rw_ plan 0).length:Nat):Int)*((c.toNat^(rw_ plan 0).length:Nat):Int)))=(setD c.toNat (p%(rw_ plan 0).length) (sd (tat ts i) 3).toNat (s%c.toNat^(rw_ plan 0).length):Int):=hst
 unfold bOK at hcan
 generalize (dpOf c ts plan borders).can s p i=cn at hcan hKf hKt
 generalize (dpOf c ts plan borders).stepI s p i=sI at hstI hKt hsi
 replace hsi:sI≤46656:=by omega
 obtain ⟨y,hyd⟩:∃y,p/(rw_ plan 0).length=y:=⟨_,rfl⟩
 obtain ⟨x,hxd⟩:∃x,p%(rw_ plan 0).length=x:=⟨_,rfl⟩
 rw [hyd] at y1 hcan
 rw [hxd] at x1' hcan hst hstI
 rw [hyd,hxd]
 rw [zEw] at hcan
 obtain ⟨W,hW⟩:∃W,(rw_ plan 0).length=W:=⟨_,rfl⟩
 have hxy:x<(rw_ plan y).length:=by rw [(hp.1.2 y y1).1];exact x1'
 have beqC:∀a b:Nat,((a:Int) != (b:Int)) = !(a==b):=fun a b=>by
  rw [Bool.eq_iff_iff]
  simp only [bne_iff_ne,ne_eq,Bool.not_eq_true',beq_eq_false_iff_ne]
  omega
 have bord:∀(side k:Nat) (K:Bool→H→Prop),side<4→(k<if side%2=1 then (rw_ plan 0).length else plan.length)→K (brd ts borders side k i) g→callB SP qT [i64 side,i64 k,.ptr (pt h.length),.ptr ⟨some (h3.length+13),4,0⟩] g K:=fun side k K hsd hk hK=>
  (zEx hp f ob v4 o14 hsd hk).to (by rintro _ _ ⟨rfl,rfl⟩;exact hK)
 have digt:∀(k:Nat) (K:Int→H→Prop),k≤(rw_ plan 0).length→K ((dig c.toNat s k:Nat):Int) g→callI SP .i64 wJ [i64 k,.ptr (pt h1.length),.ptr (pt h.length),.ptr (pt (h3.length+14))] g K:=fun k K hk hK=>
  (zCb hs hp f ob v4 v6 v15 hs46 hk).to (by rintro _ _ ⟨rfl,rfl⟩;exact hK)
 -- the next state
 have R14:cn=true→qB SP (VE SP K0) (pt h.length) (pt h1.length) (rw_ plan 0).length x ⟨some (h3.length+13),4,0⟩ (.func wJ [.ptr (pt h1.length),.ptr (pt h.length),.ptr (pt (h3.length+14))]) false g:=fun hc=>by
  unfold qB
  refine v6.ldI ?_
  refine o14.sdI (k:=3) (by omega) (by omega) ?_
  refine yz (digt x _ (by omega) ⟨rfl,rfl,v4.ldP ⟨rfl,rfl,rfl,ob.ldS (i:=4) rfl rfl ⟨rfl,?_⟩⟩⟩)
  refine f.rp.ixC (by omega) (by rw [wR];omega) fun p9 hp9=>⟨_,hp9,rfl,?_⟩
  rw [Int.toNat_natCast,Zb (by omega)] at hp9
  refine yz (digt (rw_ plan 0).length _ (by omega) ⟨rfl,rfl,rfl,rfl,rfl,v4.ldP ⟨rfl,rfl,rfl,rfl,ob.ldS (i:=4) rfl rfl ⟨rfl,rfl,?_⟩⟩⟩)
  refine f.rp.ixC (by omega) (by rw [wR];omega) fun p17 hp17=>⟨_,hp17,rfl,rfl,?_⟩
  rw [Int.toNat_natCast,Int.toNat_natCast,Zb (by omega),Zb (by omega),show sd (tat ts ((i:Nat):Int)) (Int.toNat 3)=((sd (tat ts i) 3).toNat:Int) from e3,hst,zpm]
  unfold zgc YF
  rw [zpl,zf (n:=((rw_ plan 0).length:Int)-1) (by omega) (by omega)]
  unfold zgb
  refine zc (fun q1=>?_) (fun q1=>?_)
  ·rw [if_pos (by omega)] at hstI
   unfold YE
   refine o14.sdI (k:=2) (by omega) (by omega) (v4.ldP ⟨rfl,rfl,ob.ldS (i:=4) rfl rfl ?_⟩)
   refine f.rp.ldG (by omega) (by rw [wR];omega) ?_
   rw [Int.toNat_natCast,Zb (by omega),show sd (tat ts ((i:Nat):Int)) (Int.toNat 2)=((sd (tat ts i) 2).toNat:Int) from e2,←Int.natCast_mul]
   rw [zf (n:=(((sd (tat ts i) 2).toNat*c.toNat^(rw_ plan 0).length:Nat):Int)) (by omega) (by omega),zf (by omega) (by omega),←Int.natCast_add,←hstI,zpk]
   unfold zga YD
   rw [zbS]
   exact hKt hc
  ·rw [if_neg (by omega),Nat.add_zero] at hstI
   rw [←hstI]
   unfold YC
   show VD SP K0 .normal (Xr _ true) g
   rw [zbS]
   exact hKt hc
 have R12:∀b,b=((!(y+1 != plan.length) && !brd ts borders 3 x i)||(!(x+1 != (rw_ plan 0).length) && !brd ts borders 2 y i))→cn = !b→(wL SP K0) .normal (xe (pt h.length) (pt h1.length) (rw_ plan 0).length x ⟨some (h3.length+13),4,0⟩ (.func wJ [.ptr (pt h1.length),.ptr (pt h.length),.ptr (pt (h3.length+14))]) b) g:=fun b e ec=>by
  rw [zpo]
  unfold zgd
  refine yy (fun qb=>?_) (fun qb=>?_)
  ·unfold YG
   rw [zpn]
   exact hKf (by rw [ec,qb];rfl)
  ·rw [qb]
   exact R14 (by rw [ec,qb];rfl)
 have beqE:∀(a b:Nat),(b:Int)≤5→0<b→((a:Int)=(w64 ((b:Int)-1))↔a+1=b):=fun a b h5 h0=>by rw [zf (by omega) (by omega)];omega
 have hH5:(plan.length:Int)≤5:=by omega
 have hW5:((rw_ plan 0).length:Int)≤5:=by omega
 -- the south and the east
 have G12:cn = !((!(y+1 != plan.length) && !brd ts borders 3 x i)||(!(x+1 != (rw_ plan 0).length) && !brd ts borders 2 y i))→∀b,qC SP (wL SP K0) (pt h.length) (pt h1.length) plan.length (rw_ plan 0).length y x ⟨some (h3.length+13),4,0⟩ (.func qT [.ptr (pt h.length),.ptr ⟨some (h3.length+13),4,0⟩]) (.func wJ [.ptr (pt h1.length),.ptr (pt h.length),.ptr (pt (h3.length+14))]) b g:=fun ec bb=>by
  unfold qC
  have east:(!(y+1 != plan.length) && !brd ts borders 3 x i)=false→bif ((x:Int)==(w64 (((rw_ plan 0).length:Int)-1))) then viaF (.func qT [.ptr (pt h.length),.ptr ⟨some (h3.length+13),4,0⟩]) [.int .i64 2,.int .i64 y] fun g8 ys9=>callB SP g8 ys9 g fun b11 h10=>(wL SP K0) .normal (xe (pt h.length) (pt h1.length) (rw_ plan 0).length x ⟨some (h3.length+13),4,0⟩ (.func wJ [.ptr (pt h1.length),.ptr (pt h.length),.ptr (pt (h3.length+14))]) (!b11)) h10
    else (wL SP K0) .normal (xe (pt h.length) (pt h1.length) (rw_ plan 0).length x ⟨some (h3.length+13),4,0⟩ (.func wJ [.ptr (pt h1.length),.ptr (pt h.length),.ptr (pt (h3.length+14))]) false) g:=fun ev=>by
   refine zp (fun q1=>?_) (fun q1=>?_)
   ·rw [beqE _ _ hW5 d4] at q1
    have ex:(x+1 != (rw_ plan 0).length)=false:=by rw [bne_eq_false_iff_eq];exact q1
    refine yz (bord 2 y _ (by omega) (by rw [if_neg (by omega)];exact y1) ?_)
    refine R12 _ (by rw [ev,ex];rfl) (by rw [ec,ev,ex];rfl)
   ·have ex:(x+1 != (rw_ plan 0).length)=true:=by rw [bne_iff_ne];exact fun e=>q1 ((beqE _ _ hW5 d4).2 e)
    refine R12 _ (by rw [ev,ex];rfl) (by rw [ec,ev,ex];rfl)
  refine zp (fun q1=>?_) (fun q1=>?_)
  ·rw [beqE _ _ hH5 d6] at q1
   have ey:(y+1 != plan.length)=false:=by rw [bne_eq_false_iff_eq];exact q1
   refine yz (bord 3 x _ (by omega) (by rw [if_pos (by omega)];exact x1') ?_)
   refine zr (fun q2=>R12 _ (by rw [ey,q2];rfl) (by rw [ec,ey,q2];rfl)) (fun q2=>?_)
   exact east (by rw [ey,q2];rfl)
  ·have ey:(y+1 != plan.length)=true:=by rw [bne_iff_ne];exact fun e=>q1 ((beqE _ _ hH5 d6).2 e)
   exact east (by rw [ey];rfl)
 have R10:∀b,b=((x==0 && !brd ts borders 0 y i)||(!(x==0) && !(dig c.toNat s (rw_ plan 0).length==(sd (tat ts i) 0).toNat)))→cn=(!b && !((!(y+1 != plan.length) && !brd ts borders 3 x i)||(!(x+1 != (rw_ plan 0).length) && !brd ts borders 2 y i)))→(ZZ SP K0) .normal (xJ (pt h.length) (pt h1.length) plan.length (rw_ plan 0).length y x ⟨some (h3.length+13),4,0⟩ (.func qT [.ptr (pt h.length),.ptr ⟨some (h3.length+13),4,0⟩]) (.func wJ [.ptr (pt h1.length),.ptr (pt h.length),.ptr (pt (h3.length+14))]) b) g:=fun b e ec=>by
  rw [zpq]
  unfold zge
  refine yy (fun qb=>?_) (fun qb=>?_)
  ·unfold YH
   rw [zpp]
   exact hKf (by rw [ec,qb];rfl)
  ·exact G12 (by rw [ec,qb];rfl) _
 -- the west
 have G10:cn=(!((x==0 && !brd ts borders 0 y i)||(!(x==0) && !(dig c.toNat s (rw_ plan 0).length==(sd (tat ts i) 0).toNat))) && !((!(y+1 != plan.length) && !brd ts borders 3 x i)||(!(x+1 != (rw_ plan 0).length) && !brd ts borders 2 y i)))→∀b,qD SP (ZZ SP K0) (pt h.length) (pt h1.length) plan.length (rw_ plan 0).length y x ⟨some (h3.length+13),4,0⟩ (.func qT [.ptr (pt h.length),.ptr ⟨some (h3.length+13),4,0⟩]) (.func wJ [.ptr (pt h1.length),.ptr (pt h.length),.ptr (pt (h3.length+14))]) b g:=fun ec bb=>by
  unfold qD
  refine zp (fun q1=>?_) (fun q1=>?_)
  ·have ex:(x==0)=true:=by rw [beq_iff_eq];omega
   refine yz (bord 0 y _ (by omega) (by rw [if_neg (by omega)];exact y1) ?_)
   refine zr (fun q2=>R10 _ (by rw [ex,q2];rfl) (by rw [ec,ex,q2];rfl)) (fun q2=>?_)
   refine zc (fun q3=>by omega) (fun q3=>?_)
   exact R10 _ (by rw [ex,q2];rfl) (by rw [ec,ex,q2];rfl)
  ·have ex:(x==0)=false:=by rw [beq_eq_false_iff_ne];omega
   refine zc (fun q3=>?_) (fun q3=>by omega)
   refine yz (digt (rw_ plan 0).length _ (by omega) ?_)
   refine o14.sdI (k:=0) (by omega) (by omega) ⟨rfl,?_⟩
   rw [show sd (tat ts ((i:Nat):Int)) (Int.toNat 0)=((sd (tat ts i) 0).toNat:Int) from e0,beqC]
   exact R10 _ (by rw [ex];rfl) (by rw [ec,ex];rfl)
 have R8:∀b,b=((y==0 && !brd ts borders 1 x i)||(!(y==0) && !(dig c.toNat s x==(sd (tat ts i) 1).toNat)))→cn=(!b&&(!((x==0 && !brd ts borders 0 y i)||(!(x==0) && !(dig c.toNat s (rw_ plan 0).length==(sd (tat ts i) 0).toNat))) && !((!(y+1 != plan.length) && !brd ts borders 3 x i)||(!(x+1 != (rw_ plan 0).length) && !brd ts borders 2 y i))))→(Xq SP K0) .normal (wY (pt h.length) (pt h1.length) plan.length (rw_ plan 0).length y x ⟨some (h3.length+13),4,0⟩ (.func qT [.ptr (pt h.length),.ptr ⟨some (h3.length+13),4,0⟩]) (.func wJ [.ptr (pt h1.length),.ptr (pt h.length),.ptr (pt (h3.length+14))]) b) g:=fun b e ec=>by
  rw [zzd]
  unfold zku
  refine yy (fun qb=>?_) (fun qb=>?_)
  ·unfold VF
   rw [zzc]
   exact hKf (by rw [ec,qb];rfl)
  ·exact G10 (by rw [ec,qb];rfl) _
 -- the north
 have G8:cn=(!((y==0 && !brd ts borders 1 x i)||(!(y==0) && !(dig c.toNat s x==(sd (tat ts i) 1).toNat)))&&(!((x==0 && !brd ts borders 0 y i)||(!(x==0) && !(dig c.toNat s (rw_ plan 0).length==(sd (tat ts i) 0).toNat))) && !((!(y+1 != plan.length) && !brd ts borders 3 x i)||(!(x+1 != (rw_ plan 0).length) && !brd ts borders 2 y i))))→∀b,Z0 SP (Xq SP K0) (pt h.length) (pt h1.length) plan.length (rw_ plan 0).length y x ⟨some (h3.length+13),4,0⟩ (.func qT [.ptr (pt h.length),.ptr ⟨some (h3.length+13),4,0⟩]) (.func wJ [.ptr (pt h1.length),.ptr (pt h.length),.ptr (pt (h3.length+14))]) b g:=fun ec bb=>by
  unfold Z0
  refine zp (fun q1=>?_) (fun q1=>?_)
  ·have ey:(y==0)=true:=by rw [beq_iff_eq];omega
   refine yz (bord 1 x _ (by omega) (by rw [if_pos (by omega)];exact x1') ?_)
   refine zr (fun q2=>R8 _ (by rw [ey,q2];rfl) (by rw [ec,ey,q2];rfl)) (fun q2=>?_)
   refine zc (fun q3=>by omega) (fun q3=>?_)
   exact R8 _ (by rw [ey,q2];rfl) (by rw [ec,ey,q2];rfl)
  ·have ey:(y==0)=false:=by rw [beq_eq_false_iff_ne];omega
   refine zc (fun q3=>?_) (fun q3=>by omega)
   refine yz (digt x _ (by omega) ?_)
   refine o14.sdI (k:=1) (by omega) (by omega) ⟨rfl,?_⟩
   rw [show sd (tat ts ((i:Nat):Int)) (Int.toNat 1)=((sd (tat ts i) 1).toNat:Int) from e1,beqC]
   exact R8 _ (by rw [ey];rfl) (by rw [ec,ey];rfl)
 have R6:∀b,b=(decide (G plan y x≥0)&&G plan y x != (i:Int))→(zgf SP K0) .normal (YI (pt h.length) (pt h1.length) plan.length (rw_ plan 0).length y x ⟨some (h3.length+13),4,0⟩ (.func qT [.ptr (pt h.length),.ptr ⟨some (h3.length+13),4,0⟩]) (.func wJ [.ptr (pt h1.length),.ptr (pt h.length),.ptr (pt (h3.length+14))]) b) g:=fun b e=>by
  rw [zzf]
  unfold zkv
  rw [←e] at hcan
  refine yy (fun qb=>?_) (fun qb=>?_)
  ·unfold VG
   rw [zze]
   exact hKf (by rw [hcan,qb];rfl)
  ·exact G8 (by rw [hcan,qb];rfl) _
 refine v4.ldP ⟨rfl,rfl,ob.ldS (i:=2) rfl rfl ?_⟩
 refine f.rq.ldG (by omega) (by omega) fun v rv lv=>?_
 rw [Int.toNat_natCast] at rv lv
 refine rv.ldG (by omega) (by omega) ?_
 rw [Int.toNat_natCast,show (rw_ plan y).getD x 0=G plan y x from rfl]
 refine zc (fun qp=>?_) (fun qp=>?_)
 ·refine v4.ldP ⟨rfl,rfl,ob.ldS (i:=2) rfl rfl ?_⟩
  refine f.rq.ldG (by omega) (by omega) fun v rv lv=>?_
  rw [Int.toNat_natCast] at rv lv
  refine rv.ldG (by omega) (by omega) ?_
  rw [Int.toNat_natCast,show (rw_ plan y).getD x 0=G plan y x from rfl]
  exact R6 _ (by rw [decide_eq_true qp,Bool.true_and])
 ·exact R6 _ (by rw [decide_eq_false qp,Bool.false_and])
end
end Go.Proofs.YtlcgclmobfdbcaaGreat.Cl
set_option linter.unusedVariables false
set_option linter.unusedSimpArgs false
namespace Go.Proofs.YtlcgclmobfdbcaaGreat.Cl
open Go
section
variable (D:Dp) (p:Nat)
def CntRow (l:List Int):Prop:=l.length=D.lim∧∀s,s<D.lim→l.getD s 0=sv (D.fk D.lim p s)
def RXo (s i:Nat):Prop:=D.reach D.stepI p s∧i<D.n∧D.can s p i=true
def tm (s i r:Nat):Nat:=if D.can s p i=true∧D.stepI s p i=r then D.fk D.lim p s else 0
def pf (st i r:Nat):Nat:=((List.range st).map fun s'=>((List.range D.n).map fun i'=>tm D p s' i' r).sum).sum+((List.range i).map fun i'=>tm D p st i' r).sum
def CntI (st i:Nat) (l:List Int):Prop:=l.length=D.lim∧∀r,r<D.lim→l.getD r 0=sv (pf D p st i r)
def zHY (bl:List Bool):Prop:=bl.length=D.lim∧∀s,s<D.lim→(bl.getD s false=true↔D.alive p s)
end
section
variable {D:Dp} {p:Nat}
theorem CntRow.tri {l:List Int} (h:CntRow D p l) (ok:D.OK) {s:Nat} (hs:s<D.lim):0≤l.getD s 0∧l.getD s 0≤1000000000000001∧(0<l.getD s 0↔D.reach D.stepI p s):=by
 rw [h.2 s hs]
 exact ⟨(zgA _).1,(zgA _).2,sv_pos.trans (Dp.fk_pos ok rfl p s)⟩
theorem zje {st i r:Nat}:pf D p st (i+1) r=pf D p st i r+tm D p st i r:=by
 unfold pf
 rw [List.range_succ,List.map_append,List.sum_append];simp;omega
theorem zLA (ok:D.OK) {st i r:Nat} (hi:i<D.n) (hn:¬RXo D p st i):tm D p st i r=0:=by
 unfold tm
 split
 ·next h=>
  have:¬D.reach D.stepI p st:=fun q=>hn ⟨q,hi,h.1⟩
  rw [←Dp.fk_pos ok rfl p st] at this
  show D.fk D.lim p st=0
  have e:D.lim=D.c^(D.w+1):=rfl
  rw [e]
  omega
 ·rfl
theorem CntI.start:CntI D p 0 0 (List.replicate D.lim 0):=⟨by simp,fun r hr=>by
 have:(List.replicate D.lim (0:Int)).getD r 0=0:=by rw [List.getD_eq_getElem?_getD,List.getElem?_replicate,if_pos hr];rfl
 rw [this];rfl⟩
theorem CntI.skip {st i:Nat} {l:List Int} (a:CntI D p st i l) (ok:D.OK) (hi:i<D.n) (hn:¬RXo D p st i):CntI D p st (i+1) l:=by
 refine ⟨a.1,fun r hr=>?_⟩
 rw [zje,zLA ok hi hn,Nat.add_zero]
 exact a.2 r hr
theorem CntI.add {st i:Nat} {l:List Int} (a:CntI D p st i l) (hn:RXo D p st i) (hs:D.stepI st p i<D.lim) {n:Int} (hN:n=sv (D.fk D.lim p st)):CntI D p st (i+1) (l.set (D.stepI st p i) (mnI 1000000000000001 (w64 (l.getD (D.stepI st p i) 0+n)))):=by
 refine ⟨by rw [List.length_set];exact a.1,fun r hr=>?_⟩
 rw [Xm (by rw [a.1];exact hs),zje]
 unfold tm
 split
 ·next e=>
  rw [a.2 _ hs,hN,zqk,if_pos ⟨hn.2.2,e⟩,e]
 ·next e=>
  rw [if_neg fun h=>e h.2,Nat.add_zero]
  exact a.2 r hr
theorem zEM (ok:D.OK) {st i r:Nat} (hn:∀j,i≤j→¬RXo D p st j):∀k,i+k≤D.n→pf D p st (i+k) r=pf D p st i r
 | 0,_=>rfl
 | k+1,h=>by rw [←Nat.add_assoc,zje,zLA ok (by omega) (hn _ (by omega)),Nat.add_zero,zEM ok hn k (by omega)]
theorem CntI.next {st i:Nat} {l:List Int} (a:CntI D p st i l) (ok:D.OK) (hi:i≤D.n) (hn:∀j,i≤j→¬RXo D p st j):CntI D p (st+1) 0 l:=by
 refine ⟨a.1,fun r hr=>?_⟩
 rw [a.2 r hr]
 congr 1
 have h1:=zEM (r:=r) ok hn (D.n-i) (by omega)
 rw [show i+(D.n-i)=D.n by omega] at h1
 rw [←h1]
 unfold pf
 rw [List.range_succ,List.map_append,List.sum_append];simp
theorem CntI.row {l:List Int} (ok:D.OK) (a:CntI D p D.lim 0 l):CntRow D (p+1) l:=⟨a.1,fun r hr=>by
 rw [a.2 r hr]
 rfl⟩
theorem ziN {s:Nat}:D.alive D.size s↔D.reach D.stepI D.size s:=by
 unfold Dp.alive
 rw [Nat.sub_self]
 exact ⟨fun h=>h.1,fun h=>⟨h,trivial⟩⟩
theorem YO {s:Nat} (hp:p<D.size) (h:D.reach D.stepI p s):D.alive p s↔∃i,i<D.n∧D.can s p i=true∧D.alive (p+1) (D.stepI s p i):=by
 unfold Dp.alive
 rw [show D.size-p=(D.size-(p+1))+1 by omega]
 constructor
 ·rintro ⟨_,i,hi,h1,h2⟩
  exact ⟨i,hi,h1,⟨s,i,h,hi,h1,rfl⟩,h2⟩
 ·rintro ⟨i,hi,h1,_,h2⟩
  exact ⟨h,i,hi,h1,h2⟩
end
def CntT (D:Dp) (n:Nat) (h:H) (v:Sl):Prop:=∃vs:List Sl,vs.length=n∧Rd h v 1 (vs.map .sl)∧∀(j:Nat) w,vs[j]? = some w→∃l,Rd h w 1 (ic l)∧CntRow D j l
def AlvT (D:Dp) (h:H) (v:Sl):Prop:=∃vs:List Sl,vs.length=D.size+1∧Rd h v 1 (vs.map .sl)∧∀(j:Nat) w,vs[j]? = some w→∃bl:List Bool,Rd h w 1 (bl.map .bool)∧zHY D j bl
theorem AlvT.ext {D:Dp} {h h':H} {v:Sl} (t:AlvT D h v) (x:Ext h h'):AlvT D h' v:=by
 obtain ⟨vs,a,b,c⟩:=t
 exact ⟨vs,a,b.ext x,fun j w e=>by obtain ⟨l,r,y⟩:=c j w e;exact ⟨l,r.ext x,y⟩⟩
theorem CntT.ext {D:Dp} {n:Nat} {h h':H} {v:Sl} (t:CntT D n h v) (x:Ext h h'):CntT D n h' v:=by
 obtain ⟨vs,a,b,c⟩:=t
 exact ⟨vs,a,b.ext x,fun j w e=>by obtain ⟨l,r,y⟩:=c j w e;exact ⟨l,r.ext x,y⟩⟩
section
variable {c:Int} {ts:List Tile} {plan borders:List (List Int)} {u q bq pw cn al:Sl} {fo:Nat}
theorem zEJ (hs:setOK c ts) (hp:zJ c ts.length plan borders) {h:H} (f:FilH c ts plan borders u q bq pw h) (ob:Obj h fo (FilC c u q bq pw cn al)):callI SP .i64 qU [.ptr ⟨some fo,7,0⟩] h fun n h'=>n=((plan.length*(rw_ plan 0).length:Nat):Int)∧h'=h:=by
 obtain ⟨d1,d2,d3,d4,d5,d6,d7,d8,d9⟩:=dims hs hp
 have hql:=f.rq.len
 apply zzn
 unfold VY
 refine ⟨rfl,rfl,ob.ldS (i:=2) rfl rfl ⟨rfl,rfl,ob.ldS (i:=2) rfl rfl ?_⟩⟩
 refine f.rq.ldG (i:=0) (by omega) (by omega) fun v0 rv0 lv0=>?_
 replace lv0:v0.len=(rw_ plan 0).length:=lv0
 refine ⟨_,rfl,?_,rfl⟩
 rw [lv0,hql,←Int.natCast_mul]
 exact zcj (by omega)
theorem zIu (hs:setOK c ts) (hp:zJ c ts.length plan borders) {K0:AVal→H→Prop} {g1:H} {a0 oc:Nat}
  (hst:∀g,Chg (fun i=>i=fo∨i=oc) g1 g→FilH c ts plan borders u q bq pw g∧Obj g a0 (SetC c u)) (hcf:oc≠fo) {cn0:Sl}
  (ob:Obj g1 fo (FilC c u q bq pw cn0 Sl.nil)) {w0:Sl} {l0:List Int} (t0:Ow g1 cn0 1 [.sl w0]) (hoc:cn0.o=some oc) (r0:Rd g1 w0 1 (ic l0)) (y0:CntRow (dpOf c ts plan borders) 0 l0) (hw0:w0.o≠some oc∧w0.o≠some fo)
  (hK:∀g cn,Chg (fun i=>i=fo∨i=oc) g1 g→Obj g fo (FilC c u q bq pw cn Sl.nil)→(∃vs:List Sl,vs.length=(dpOf c ts plan borders).size+1∧∀g',But (some fo) g g'→Rd g' cn 1 (vs.map .sl)∧∀(j:Nat) w,vs[j]? = some w→∃l,Rd g' w 1 (ic l)∧CntRow (dpOf c ts plan borders) j l)→ztl SP K0 ⟨some a0,2,0⟩ ⟨some fo,7,0⟩ ((dpOf c ts plan borders).lim:Nat) g):
  zth SP K0 ⟨some a0,2,0⟩ ⟨some fo,7,0⟩ ((dpOf c ts plan borders).lim:Nat) ((dpOf c ts plan borders).size:Nat) 0 g1:=by
 obtain ⟨d1,d2,d3,d4,d5,d6,d7,d8,d9⟩:=dims hs hp
 have ok:=wF hs hp
 have hfit:=fun {h:H} {cn al:Sl} (f:FilH c ts plan borders u q bq pw h) (ob:Obj h fo (FilC c u q bq pw cn al)) (s p i:Nat) (a:s<(dpOf c ts plan borders).c^((dpOf c ts plan borders).w+1)) (b:i<ts.length) (d:p<plan.length*(rw_ plan 0).length)=>zlZ hs hp f ob a b d
 have Dn':(dpOf c ts plan borders).n=ts.length:=rfl
 have Ds':(dpOf c ts plan borders).size=plan.length*(rw_ plan 0).length:=rfl
 have Dc':(dpOf c ts plan borders).c=c.toNat:=rfl
 have Dw':(dpOf c ts plan borders).w=(rw_ plan 0).length:=rfl
 generalize dpOf c ts plan borders=D at ok hfit Dn' Ds' Dc' Dw' y0 hK ⊢
 have hlim:D.lim≤46656:=zV (by omega) (by omega)
 have hlim0:0<D.lim:=Nat.pow_pos ok.hc
 refine zsU _ _ _ _ _ _ (fun i g=>∃(p:Nat) (cn:Sl) (vs:List Sl),i=p∧p≤D.size∧Obj g fo (FilC c u q bq pw cn Sl.nil)∧Ow g cn 1 (vs.map .sl)∧cn.o=some oc∧vs.length=p+1∧(∀(j:Nat) w,vs[j]? = some w→∃l,Rd g w 1 (ic l)∧CntRow D j l∧w.o≠some oc∧w.o≠some fo)∧Chg (fun i=>i=fo∨i=oc) g1 g) (fun i _=>(D.size-i).toNat) ?_ _
  ⟨0,cn0,[w0],rfl,by omega,ob,t0,hoc,rfl,fun j w hw=>by
   have hj:=(List.getElem?_eq_some_iff.1 hw).1
   simp at hj
   subst hj
   simp at hw;subst hw
   exact ⟨l0,r0,y0,hw0⟩,Chg.refl _ _⟩
 rintro X _ g0 ⟨p,cn,vs,rfl,hp',ob,tv,hoc,hvl,hrow,cg⟩ hX
 unfold zte
 obtain ⟨f0,o0⟩:=hst g0 cg
 have hol:=tv.lt hoc
 have hfl:=ob.lt
 have hcl:cn.len=p+1:=by have:=tv.len;rw [List.length_map,hvl,Nat.mul_one] at this;omega
 refine zc (fun hi=>?_) (fun hi=>?_)
 ·have hpl:p<D.size:=by omega
  refine qQ (by omega) (by unfold lim;omega) fun s11 h1 os11 ls11 so11 e1=>?_
  have xa:Ext g0 h1:=by rw [e1];exact Ext.app _ _
  have hz:(List.replicate (D.lim:Int).toNat [AVal.int .i64 0]).flatten=ic (List.replicate D.lim 0):=by
   unfold ic
   rw [List.map_replicate,Int.toNat_natCast];simp
  rw [hz] at os11
  have ls11':s11.len=D.lim:=by rw [ls11];omega
  refine ⟨rfl,rfl,(ob.ext xa).ldS (i:=5) rfl rfl ?_⟩
  refine (tv.ext xa).rd.ldS (by omega) (by omega) fun w hw=>?_
  rw [Int.toNat_natCast] at hw
  obtain ⟨lw,rw_,yw,wc,wf⟩:=hrow p w hw
  have lwl:w.len=D.lim:=by have:=rw_.ilen;rw [yw.1] at this;exact this
  rw [lwl]
  refine zsT _ _ X _ _ _ _ _ _ _ _ _ (fun st g=>∃(k:Nat) (l:List Int),st=k∧k≤D.lim∧Ow g s11 1 (ic l)∧CntI D p k 0 l∧Ext g0 g) (fun st _=>(D.lim-st).toNat) ?_ _
   ⟨0,_,rfl,by omega,os11,CntI.start,xa⟩
  rintro Y _ g2 ⟨st,l,rfl,hst',os2,cnt2,x2⟩ hY
  unfold ztd zFM zFN
  refine zc (fun hi2=>?_) (fun hi2=>?_)
  ·have hstl:st<D.lim:=by omega
   refine (rw_.ext x2).ldG (by omega) (by rw [yw.1];omega) ?_
   rw [Int.toNat_natCast]
   obtain ⟨n0,n1,n2⟩:=yw.tri ok hstl
   refine zh ((o0.ext x2).ldS (i:=1) rfl rfl ?_)
   have hul:=(f0.ext x2).ru.tlen
   rw [hul]
   refine zsS _ _ X Y _ _ _ _ _ _ _ _ _ _ _ _ _ (fun i g=>∃(k:Nat) (l:List Int),i=k∧k≤D.n∧Ow g s11 1 (ic l)∧CntI D p st k l∧Ext g0 g) (fun i _=>(D.n-i).toNat) ?_ _
    ⟨0,l,rfl,by omega,os2,cnt2,x2⟩
   rintro Z _ g3 ⟨i,l3,rfl,hin,os3,cnt3,x3⟩ hZ
   unfold ztc ztk zFL
   have nxt:(∀j,i≤j→¬RXo D p st j)→Y (zbz ⟨some a0,2,0⟩ ⟨some fo,7,0⟩ (D.lim:Nat) p s11 (D.size:Nat) p w (D.lim:Nat) (w64 (st+1))) g3:=fun hn=>by
    rw [zf (n:=(st:Int)+1) (by omega) (by omega)]
    exact hY _ _ ⟨st+1,l3,by push_cast;rfl,by omega,os3,cnt3.next ok hin hn,x3⟩ (by omega)
   refine zc (fun hi3=>?_) (fun hi3=>nxt fun j hj hn=>by have:=hn.2.1;omega)
   refine zp (fun q0=>nxt fun j hj hn=>by have:=n2.2 hn.1;omega) (fun q0=>?_)
   have hre:=n2.1 (by omega)
   refine (hfit (f0.ext x3) (ob.ext x3) st p i hstl (by omega) (by omega)).to ?_
   rintro _ g4 ⟨rfl,x4⟩
   refine ⟨_,rfl,_,rfl,_,rfl,_,rfl,?_⟩
   have x04:=x3.trans x4
   have os4:=os3.ext x4
   rw [zf (n:=(i:Int)+1) (by omega) (by omega)]
   refine yy (fun qc=>?_) (fun qc=>?_)
   ·rw [if_pos qc]
    have hsi:D.stepI st p i<D.lim:=Dp.stepI_lt ok (by omega)
    refine os4.rd.ldG (by omega) (by rw [cnt3.1];omega) ?_
    refine os4.stI (by omega) (by omega) _ fun g5 o5 b5 n5=>?_
    rw [Int.toNat_natCast] at o5
    exact hZ _ _ ⟨i+1,_,by push_cast;rfl,by omega,o5,cnt3.add ⟨hre,by omega,qc⟩ hsi (yw.2 st hstl),x04.but_ b5 (by rw [so11];exact zi (Nat.le_refl _))⟩ (by omega)
   ·exact hZ _ _ ⟨i+1,l3,by push_cast;rfl,by omega,os4,cnt3.skip ok (by omega) (fun h=>by have:=h.2.2;rw [qc] at this;cases this),x04⟩ (by omega)
  ·have hstl:st=D.lim:=by omega
   subst hstl
   have row:=cnt2.row ok
   refine ⟨rfl,rfl,(ob.ext x2).ldS (i:=5) rfl rfl ?_⟩
   have lx2:=x2.len
   refine zj (by rfl) fun sv g3 osv lsv sov e3=>?_
   have x23:Ext g2 g3:=by rw [e3];exact Ext.app _ _
   have x03:=x2.trans x23
   refine yk (by omega) (tv.ext x03) osv.rd (by rw [hcl,lsv];unfold lim;omega) fun s3 g4 os4 ls4 b4 k4 _=>?_
   rw [hoc] at b4
   have so4:=k4 _ hoc
   have ob4:=(ob.ext x03).but b4 (sne hcf)
   refine ⟨rfl,rfl,ob4.st1 (n:=7) (i:=5) rfl (by decide) _ fun g5 ob5 b5 n5=>?_⟩
   rw [zf (n:=(p:Int)+1) (by omega) (by omega)]
   have c5:Chg (fun i=>i=fo∨i=oc) g0 g5:=((x03.chg _).trans (b4.chg fun i e=> .inr (Option.some.inj e).symm)).trans (b5.chg fun i e=> .inl (Option.some.inj e).symm)
   have hs11:s11.o≠some oc∧s11.o≠some fo:=by rw [so11];exact ⟨sne (by omega),sne (by omega)⟩
   have keep:∀{w:Sl} {cs:List AVal},Rd g2 w 1 cs→w.o≠some oc∧w.o≠some fo→Rd g5 w 1 cs:=fun r hw=>((r.ext x23).but b4 (.inl (Ne.symm hw.1))).but b5 (.inl (Ne.symm hw.2))
   refine hX _ _ ⟨p+1,s3,vs++[s11],by push_cast;rfl,by omega,ob5,(show Ow g4 s3 1 ((vs++[s11]).map .sl) from by rw [List.map_append];exact os4).but b5 (.inl (by rw [so4];exact sne (Ne.symm hcf))),so4,by simp [hvl],fun j w' hw'=>?_,cg.trans c5⟩ (by omega)
   rw [List.getElem?_append] at hw'
   split at hw'
   ·next hlt=>
    obtain ⟨l',r',y',z'⟩:=hrow j w' hw'
    exact ⟨l',keep (r'.ext x2) z',y',z'⟩
   ·next hge=>
    have hj:=(List.getElem?_eq_some_iff.1 hw').1
    have hm:=List.mem_of_getElem? hw'
    simp at hj hm
    subst hm
    have hjp:j=p+1:=by omega
    subst hjp
    exact ⟨l,keep os2.rd hs11,row,hs11⟩
 ·have hpl:p=D.size:=by omega
  subst hpl
  refine hK g0 cn cg ob ⟨vs,hvl,fun g' b=>⟨tv.rd.but b (.inl (by rw [hoc];exact sne (Ne.symm hcf))),fun j w hw=>?_⟩⟩
  obtain ⟨l',r',y',z1,z2⟩:=hrow j w hw
  exact ⟨l',r'.but b (.inl (Ne.symm z2)),y'⟩
end
end Go.Proofs.YtlcgclmobfdbcaaGreat.Cl
set_option linter.unusedVariables false
set_option linter.unusedSimpArgs false
namespace Go.Proofs.YtlcgclmobfdbcaaGreat.Cl
open Go
theorem But.past {o:Option Nat} {g a c:H} {p:Nat} (b:But o g a) (x:But (some p) a c) (hp:g.length≤p):But o g c:=
 ⟨Nat.le_trans b.1 x.1,fun i hi hn=>by rw [x.2 i (by have:=b.1;omega) (by intro e;have:=Option.some.inj e;omega),b.2 i hi hn]⟩
theorem Ow.stB {h:H} {s:Sl} {l:List Bool} (r:Ow h s 1 (l.map .bool)) {i:Nat} (h1:i<s.len) (x:Bool) {K:H→Prop}
  (hk:∀h',Ow h' s 1 ((l.set i x).map .bool)→But s.o h h'→h'.length=h.length→K h'):ixS s 1 (i:Int) fun p=>Cl.st1 p (.bool x) h K:=
 r.stC (by omega) (by omega) _ fun h' o b n=>hk h' (by rw [Int.toNat_natCast,←List.map_set] at o;exact o) b n
section
variable {c:Int} {ts:List Tile} {plan borders:List (List Int)} {u q bq pw cn al:Sl} {fo:Nat}
set_option maxHeartbeats 1000000 in
theorem zIt (hs:setOK c ts) (hp:zJ c ts.length plan borders) {K0:AVal→H→Prop} {g1:H} {a0 oal:Nat} {cn alv:Sl}
  (hst:∀g,But (some oal) g1 g→FilH c ts plan borders u q bq pw g∧Obj g a0 (SetC c u)∧Obj g fo (FilC c u q bq pw cn alv))
  {vs:List Sl} (hvl:vs.length=(dpOf c ts plan borders).size+1) (rvs1:Rd g1 cn 1 (vs.map .sl)) (hca:cn.o≠some oal) (hcnt1:∀(j:Nat) w,vs[j]? = some w→w.o≠some oal∧∃l,Rd g1 w 1 (ic l)∧CntRow (dpOf c ts plan borders) j l)
  (t0:Ow g1 alv 1 ((List.replicate ((dpOf c ts plan borders).size+1) Sl.nil).map .sl)) (hoa:alv.o=some oal)
  (hK:∀g,But (some oal) g1 g→AlvT (dpOf c ts plan borders) g alv→K0 (.ptr ⟨some fo,7,0⟩) g):
  ztg SP K0 ⟨some a0,2,0⟩ ⟨some fo,7,0⟩ ((dpOf c ts plan borders).lim:Nat) ((dpOf c ts plan borders).size:Nat) g1:=by
 obtain ⟨d1,d2,d3,d4,d5,d6,d7,d8,d9⟩:=dims hs hp
 have ok:=wF hs hp
 have hfit:=fun {h:H} {cn al:Sl} (f:FilH c ts plan borders u q bq pw h) (ob:Obj h fo (FilC c u q bq pw cn al)) (s p i:Nat) (a:s<(dpOf c ts plan borders).c^((dpOf c ts plan borders).w+1)) (b:i<ts.length) (d:p<plan.length*(rw_ plan 0).length)=>zlZ hs hp f ob a b d
 have hsize:=fun {h:H} {cn al:Sl} (f:FilH c ts plan borders u q bq pw h) (ob:Obj h fo (FilC c u q bq pw cn al))=>zEJ hs hp f ob
 have Dn':(dpOf c ts plan borders).n=ts.length:=rfl
 have Ds':(dpOf c ts plan borders).size=plan.length*(rw_ plan 0).length:=rfl
 have Dc':(dpOf c ts plan borders).c=c.toNat:=rfl
 have Dw':(dpOf c ts plan borders).w=(rw_ plan 0).length:=rfl
 rw [←Ds'] at hsize
 generalize dpOf c ts plan borders=D at ok hfit hsize Dn' Ds' Dc' Dw' hst hvl hcnt1 t0 hK ⊢
 have hlim:D.lim≤46656:=zV (by omega) (by omega)
 have hlim0:0<D.lim:=Nat.pow_pos ok.hc
 have hol1:=t0.lt hoa
 refine zsR _ _ _ _ _ (fun i g=>∃(p1:Nat) (ws:List Sl),i=(p1:Int)-1∧p1≤D.size+1∧Ow g alv 1 (ws.map .sl)∧ws.length=D.size+1∧(∀(j:Nat) w,p1≤j→ws[j]? = some w→∃bl:List Bool,Rd g w 1 (bl.map .bool)∧zHY D j bl∧w.o≠some oal)∧But (some oal) g1 g) (fun i _=>(i+1).toNat) ?_ _
  ⟨D.size+1,_,by push_cast;omega,Nat.le_refl _,t0,by simp,fun j w hj hw=>by
   have:=(List.getElem?_eq_some_iff.1 hw).1
   simp at this;omega,But.refl _ _⟩
 rintro X _ g ⟨p1,ws,rfl,hp1,tv,hwl,hrow,bg⟩ hX
 unfold ztb zFK
 have hal:alv.len=D.size+1:=by have:=tv.len;rw [List.length_map,hwl,Nat.mul_one] at this;omega
 refine zc (fun hi=>?_) (fun hi=>?_)
 ·obtain ⟨p,rfl⟩:∃p,p1=p+1:=⟨p1-1,by omega⟩
  rw [show ((p+1:Nat):Int)-1=(p:Int) by omega] at hX ⊢
  obtain ⟨f0,o0,ob0⟩:=hst g bg
  refine ⟨rfl,rfl,ob0.ldS (i:=6) rfl rfl ?_⟩
  refine qQ (by omega) (by unfold lim;omega) fun s1 h2 os1 ls1 so1 e2=>?_
  have x2:Ext g h2:=by rw [e2];exact Ext.app _ _
  have l2:h2.length=g.length+1:=by rw [e2];simp
  have hz:(List.replicate (D.lim:Int).toNat [AVal.bool false]).flatten=(List.replicate D.lim false).map .bool:=by
   rw [List.map_replicate,Int.toNat_natCast];simp
  rw [hz] at os1
  have ls1':s1.len=D.lim:=by rw [ls1];omega
  refine ⟨((ob0.ext x2).cellE rfl).trans (ob0.cellE rfl).symm,?_⟩
  refine (tv.ext x2).stC (by omega) (by omega) _ fun g4 tv4 b4 n4=>?_
  rw [hoa] at b4
  rw [Int.toNat_natCast,←List.map_set] at tv4
  have bg4:But (some oal) g1 g4:=(bg.trans (x2.but _)).trans b4
  have lg1:=bg.1
  have hs1a:s1.o≠some oal:=by rw [so1];exact fun e=>by have:=Option.some.inj e;omega
  have os4:=os1.but b4 (.inl (Ne.symm hs1a))
  obtain ⟨f4,o4,ob4⟩:=hst g4 bg4
  refine ⟨rfl,rfl,ob4.ldS (i:=5) rfl rfl ?_⟩
  have hcl:cn.len=D.size+1:=by have:=rvs1.len;rw [List.length_map,hvl,Nat.mul_one] at this;omega
  refine (rvs1.but bg4 (.inl (Ne.symm hca))).ldS (by omega) (by omega) fun w hw=>?_
  rw [Int.toNat_natCast] at hw
  obtain ⟨hwa,lw,rw1,yw⟩:=hcnt1 p w hw
  have lwl:w.len=D.lim:=by have:=rw1.ilen;rw [yw.1] at this;exact this
  have hwg:w.o≠some g.length:=fun e=>by
   obtain hl | ⟨_,_,cc⟩:=rw1.at_
   ·omega
   ·obtain ⟨oc,xs,w1,w2,_⟩:=zL cc
    rw [e] at w1;cases w1
    have:=yC w2
    omega
  have rw4:=rw1.but bg4 (.inl (Ne.symm hwa))
  have past:∀{g':H},But (some g.length) g4 g'→But (some oal) g1 g':=fun b=>bg4.past b lg1
  have hn1:g.length≠oal:=by omega
  have tvk:∀{g':H},But (some g.length) g4 g'→Ow g' alv 1 ((ws.set p s1).map .sl):=fun b=>tv4.but b (.inl (by rw [hoa];exact sne hn1))
  have gets:(ws.set p s1)[p]? = some s1:=List.getElem?_set_self (by omega)
  rw [lwl]
  refine znA _ _ X _ _ _ _ _ _ (fun st g'=>∃(k:Nat) (bl:List Bool),st=k∧k≤D.lim∧Ow g' s1 1 (bl.map .bool)∧bl.length=D.lim∧(∀s,s<D.lim→(bl.getD s false=true↔s<k∧D.alive p s))∧But (some g.length) g4 g') (fun st _=>(D.lim-st).toNat) ?_ _
   ⟨0,_,rfl,by omega,os4,by simp,fun s hs'=>by
    have:(List.replicate D.lim false).getD s false=false:=by rw [List.getD_eq_getElem?_getD,List.getElem?_replicate,if_pos hs'];rfl
    rw [this]
    exact ⟨(fun e=>by cases e),fun e=>by omega⟩,But.refl _ _⟩
  rintro Y _ g5 ⟨st,bl,rfl,hstl,os5,hbl,hb5,b5⟩ hY
  unfold zju ztm zFJ zdl
  refine zc (fun hi2=>?_) (fun hi2=>?_)
  ·have hst':st<D.lim:=by omega
   have rw5:=rw4.but b5 (.inl (Ne.symm hwg))
   refine rw5.ldG (by omega) (by rw [yw.1];omega) ?_
   rw [Int.toNat_natCast]
   obtain ⟨y1,y2,y3⟩:=yw.tri ok hst'
   have nxt:∀(g':H) (bl':List Bool),Ow g' s1 1 (bl'.map .bool)→bl'.length=D.lim→(∀s,s<D.lim→s≠st→(bl'.getD s false=true↔s<st∧D.alive p s))→(bl'.getD st false=true↔D.alive p st)→But (some g.length) g4 g'→Y (Yw ⟨some a0,2,0⟩ ⟨some fo,7,0⟩ (D.lim:Nat) p w (D.lim:Nat) (w64 (st+1))) g':=fun g' bl' o' hl' h1 h2 b'=>by
    rw [zf (n:=(st:Int)+1) (by omega) (by omega)]
    refine hY _ _ ⟨st+1,bl',by push_cast;rfl,by omega,o',hl',fun s hs'=>?_,b'⟩ (by omega)
    by_cases e:s=st
    ·subst e;exact h2.trans ⟨fun h=>⟨by omega,h⟩,fun h=>h.2⟩
    ·exact (h1 s hs' e).trans ⟨fun h=>⟨by omega,h.2⟩,fun h=>⟨by omega,h.2⟩⟩
   refine zp (fun q0=>nxt _ bl os5 hbl (fun s hs' _=>hb5 s hs') ((hb5 st hst').trans ⟨fun h=>by omega,fun h=>by have:=y3.2 h.1;omega⟩) b5) (fun q0=>?_)
   have hre:=y3.1 (by omega)
   obtain ⟨f5,o5,ob5⟩:=hst g5 (past b5)
   refine ⟨rfl,rfl,ob5.ldS (i:=6) rfl rfl ?_⟩
   refine (tvk b5).rd.ldS (by omega) (by simp;omega) fun s1' hs1'=>?_
   rw [Int.toNat_natCast,gets] at hs1'
   cases hs1'
   refine (hsize f5 ob5).to ?_
   rintro _ _ ⟨rfl,rfl⟩
   refine ⟨rfl,rfl,?_⟩
   refine os5.stB (by omega) _ fun g6 os6 b6 n6=>?_
   rw [so1] at b6
   have b46:=b5.trans b6
   obtain ⟨f6,o6,ob6⟩:=hst g6 (past b46)
   refine zh (o6.ldS (i:=1) rfl rfl ?_)
   rw [f6.ru.tlen]
   have eqp:((p:Int)==(D.size:Int))=decide (p=D.size):=by rw [Bool.eq_iff_iff,beq_iff_eq,decide_eq_true_eq];omega
   rw [eqp] at os6
   refine znz _ _ X Y _ _ _ _ _ _ _ _ _ (fun i g'=>∃(k:Nat) (bl':List Bool),i=k∧k≤D.n∧Ow g' s1 1 (bl'.map .bool)∧bl'.length=D.lim∧(∀s,s<D.lim→s≠st→(bl'.getD s false=true↔s<st∧D.alive p s))∧(bl'.getD st false=true↔(p=D.size∨∃i',i'<k∧D.can st p i'=true∧D.alive (p+1) (D.stepI st p i')))∧But (some g.length) g4 g') (fun i _=>(D.n-i).toNat) ?_ _
    ⟨0,_,rfl,by omega,os6,by simp [hbl],fun s hs' hne=>by rw [wK (by omega),if_neg (Ne.symm hne)];exact hb5 s hs',by
     rw [wK (by omega),if_pos rfl,decide_eq_true_eq]
     exact ⟨fun h=> .inl h,fun h=>h.resolve_right (fun ⟨i',h1,_⟩=>by omega)⟩,b46⟩
   rintro Z _ g7 ⟨i,bl7,rfl,hin,os7,hbl7,hb7,hs7,b7⟩ hZ
   unfold zjt zdk zdl
   obtain ⟨f7,o7,ob7⟩:=hst g7 (past b7)
   refine zc (fun hi3=>?_) (fun hi3=>?_)
   ·refine (hsize f7 ob7).to ?_
    rintro _ _ ⟨rfl,rfl⟩
    refine zp (fun qp=>?_) (fun qp=>?_)
    ·have hps:p=D.size:=by omega
     refine nxt _ bl7 os7 hbl7 hb7 (hs7.trans ⟨fun _=>?_,fun _=> .inl hps⟩) b7
     rw [hps,ziN,←hps];exact hre
    have hpl:p<D.size:=by omega
    refine ⟨rfl,rfl,ob7.ldS (i:=6) rfl rfl ?_⟩
    refine (tvk b7).rd.ldS (by omega) (by simp;omega) fun s1' hs1'=>?_
    rw [Int.toNat_natCast,gets] at hs1'
    cases hs1'
    refine Rd.ldB os7.rd (by omega) (by omega) fun b hb=>?_
    rw [Int.toNat_natCast] at hb
    have hbs:bl7.getD st false=b:=by rw [List.getD_eq_getElem?_getD,hb];rfl
    refine yy (fun qb=>?_) (fun qb=>?_)
    ·refine nxt _ bl7 os7 hbl7 hb7 ⟨fun _=>?_,fun _=>by rw [hbs,qb]⟩ b7
     obtain ⟨i',h1,h2,h3⟩:=(hs7.1 (by rw [hbs,qb])).resolve_left (by omega)
     exact (YO hpl hre).2 ⟨i',by omega,h2,h3⟩
    have hno:¬ ∃i',i'<i∧D.can st p i'=true∧D.alive (p+1) (D.stepI st p i'):=fun h=>by
     have:=hs7.2 (.inr h)
     rw [hbs,qb] at this;cases this
    refine (hfit f7 ob7 st p i hst' (by omega) (by omega)).to ?_
    rintro _ g8 ⟨rfl,x8⟩
    have b8:=b7.trans (x8.but (some g.length))
    have os8:=os7.ext x8
    obtain ⟨f8,o8,ob8⟩:=hst g8 (past b8)
    refine ⟨_,rfl,_,rfl,_,rfl,_,rfl,?_⟩
    refine ⟨rfl,rfl,ob8.ldS (i:=6) rfl rfl ?_⟩
    refine (tvk b8).rd.ldS (by omega) (by simp;omega) fun s1' hs1'=>?_
    rw [Int.toNat_natCast,gets] at hs1'
    cases hs1'
    have fin:∀v:Bool,(v=true↔D.can st p i=true∧D.alive (p+1) (D.stepI st p i))→ixS s1 1 st fun p21=>Cl.st1 p21 (.bool v) g8 fun h22=>Z (Zl ⟨some a0,2,0⟩ ⟨some fo,7,0⟩ (D.lim:Nat) p st w (D.lim:Nat) st (ts.length:Nat) (w64 (i+1))) h22:=fun v hv=>by
     refine os8.stB (by omega) _ fun g9 os9 b9 n9=>?_
     rw [so1] at b9
     rw [zf (n:=(i:Int)+1) (by omega) (by omega)]
     refine hZ _ _ ⟨i+1,_,by push_cast;rfl,by omega,os9,by simp [hbl7],fun s hs' hne=>by rw [wK (by omega),if_neg (Ne.symm hne)];exact hb7 s hs' hne,?_,b8.trans b9⟩ (by omega)
     rw [wK (by omega),if_pos rfl,hv]
     constructor
     ·rintro ⟨h1,h2⟩;exact .inr ⟨i,by omega,h1,h2⟩
     ·rintro (h | ⟨i',h1,h2,h3⟩)
      ·omega
      ·by_cases e:i'=i
       ·subst e;exact ⟨h2,h3⟩
       ·exact absurd ⟨i',by omega,h2,h3⟩ hno
    refine yy (fun qc=>?_) (fun qc=>fin false (by rw [qc];simp))
    refine ⟨rfl,rfl,ob8.ldS (i:=6) rfl rfl ?_⟩
    rw [zf (n:=(p:Int)+1) (by omega) (by omega)]
    refine (tvk b8).rd.ldS (by omega) (by simp;omega) fun w' hw'=>?_
    rw [show ((p:Int)+1).toNat=p+1 by omega,List.getElem?_set_ne (by omega)] at hw'
    obtain ⟨bn,rn,yn,hna⟩:=hrow (p+1) w' (by omega) hw'
    rw [if_pos qc]
    have hsi:D.stepI st p i<D.lim:=Dp.stepI_lt ok (by omega)
    have hw'g:w'.o≠some g.length:=fun e=>by
     obtain hl | ⟨_,_,cc⟩:=rn.at_
     ·have:=rn.len;rw [List.length_map,yn.1,hl] at this;omega
     ·obtain ⟨oc,xs,w1,w2,_⟩:=zL cc
      rw [e] at w1;cases w1
      have:=yC w2
      omega
    have rn8:=((rn.ext x2).but b4 (.inl (Ne.symm hna))).but b8 (.inl (Ne.symm hw'g))
    refine Rd.ldB rn8 (by omega) (by rw [yn.1];omega) fun b hb=>?_
    rw [Int.toNat_natCast] at hb
    refine fin b ?_
    have:=yn.2 _ hsi
    rw [List.getD_eq_getElem?_getD,hb] at this
    exact this.trans ⟨fun h=>⟨qc,h⟩,fun h=>h.2⟩
   ·have hin':i=D.n:=by omega
    subst hin'
    refine nxt _ bl7 os7 hbl7 hb7 (hs7.trans ?_) b7
    rcases Nat.lt_or_ge p D.size with hpl | hpl
    ·rw [YO hpl hre]
     exact ⟨fun h=>h.resolve_left (by omega),fun h=> .inr h⟩
    ·have hps:p=D.size:=by omega
     exact ⟨fun _=>by rw [hps,ziN,←hps];exact hre,fun _=> .inl hps⟩
  ·have hst':st=D.lim:=by omega
   subst hst'
   rw [zf (n:=(p:Int)-1) (by omega) (by omega)]
   refine hX _ _ ⟨p,_,rfl,by omega,tvk b5,by simp [hwl],fun j w' hj hw'=>?_,past b5⟩ (by omega)
   rcases Nat.lt_or_ge p j with hlt | hge
   ·rw [List.getElem?_set_ne (by omega)] at hw'
    obtain ⟨bn,rn,yn,hna⟩:=hrow j w' (by omega) hw'
    have hw'g:w'.o≠some g.length:=fun e=>by
     obtain hl | ⟨_,_,cc⟩:=rn.at_
     ·have:=rn.len;rw [List.length_map,yn.1,hl] at this;omega
     ·obtain ⟨oc,xs,w1,w2,_⟩:=zL cc
      rw [e] at w1;cases w1
      have:=yC w2
      omega
    exact ⟨bn,((rn.ext x2).but b4 (.inl (Ne.symm hna))).but b5 (.inl (Ne.symm hw'g)),yn,hna⟩
   ·have hjp:j=p:=by omega
    subst hjp
    rw [gets] at hw'
    cases hw'
    exact ⟨bl,os5.rd,⟨hbl,fun s hs'=>(hb5 s hs').trans ⟨fun h=>h.2,fun h=>⟨hs',h⟩⟩⟩,hs1a⟩
 ·have hp0:p1=0:=by omega
  subst hp0
  refine hK g bg ⟨ws,hwl,tv.rd,fun j w hw=>?_⟩
  obtain ⟨bl,r,y,_⟩:=hrow j w (by omega) hw
  exact ⟨bl,r,y⟩
end
end Go.Proofs.YtlcgclmobfdbcaaGreat.Cl
set_option linter.unusedVariables false
set_option linter.unusedSimpArgs false
namespace Go.Proofs.YtlcgclmobfdbcaaGreat.Cl
open Go
theorem zqO (c k:Nat):powL c (k+1)=powL c k++[((c^(k+1):Nat):Int)]:=by unfold powL;rw [List.range_succ,List.map_append];rfl
theorem Rd.olt {h:H} {s:Sl} {z:Nat} {cs:List AVal} (r:Rd h s z cs) (hs:0<s.len) {i:Nat} (e:s.o=some i):i<h.length:=by
 obtain hl | ⟨_,_,c⟩:=r.at_
 ·omega
 ·obtain ⟨o,xs,e1,e2,_⟩:=zL c
  rw [e] at e1;cases e1
  exact yC e2
section
variable {c:Int} {ts:List Tile} {plan borders:List (List Int)} {u q bq:Sl}
theorem zgF (hs:setOK c ts) (hp:zJ c ts.length plan borders) {pw cn al:Sl} {fo:Nat} {h:H} (f:FilH c ts plan borders u q bq pw h) (ob:Obj h fo (FilC c u q bq pw cn al)) {K:Int→H→Prop} (x:K ((plan.length*(rw_ plan 0).length:Nat):Int) h):callI SP .i64 qU [.ptr ⟨some fo,7,0⟩] h K:=
 (zEJ hs hp f ob).to (by rintro _ _ ⟨rfl,rfl⟩;exact x)
set_option maxHeartbeats 1000000 in
theorem Zd (hs:setOK c ts) (hp:zJ c ts.length plan borders) {h:H} (ru:Rd h u 4 (tcs ts)) (rq:RdSS h q plan) (rb:RdSS h bq borders):
  callP SP zhh [.agg (SetC c u),.sl q,.sl bq] h fun p h'=>(∃fo pw cn al,p=⟨some fo,7,0⟩∧Obj h' fo (FilC c u q bq pw cn al)∧FilH c ts plan borders u q bq pw h'∧AlvT (dpOf c ts plan borders) h' al∧CntT (dpOf c ts plan borders) ((dpOf c ts plan borders).size+1) h' cn)∧Ext h h':=by
 obtain ⟨d1,d2,d3,d4,d5,d6,d7,d8,d9⟩:=dims hs hp
 have ok:=wF hs hp
 have hql:=rq.len
 have hlim:(dpOf c ts plan borders).lim≤46656:=zV (by show c.toNat≤6;omega) (by show (rw_ plan 0).length+1≤6;omega)
 have hlim0:0<(dpOf c ts plan borders).lim:=Nat.pow_pos ok.hc
 have elim:(dpOf c ts plan borders).lim=c.toNat^(rw_ plan 0).length*c.toNat:=by show c.toNat^((rw_ plan 0).length+1)=_;rw [Nat.pow_succ]
 have esz:(dpOf c ts plan borders).size=plan.length*(rw_ plan 0).length:=rfl
 apply zCw
 unfold zdf
 refine zk fun h1 o0 x1 l1=>?_
 refine o0.ldA rfl ?_
 refine zj (by rfl) fun s3 h4 os3 ls3 so3 e4=>?_
 have x4:Ext h1 h4:=by rw [e4];exact Ext.app _ _
 have l4:h4.length=h1.length+1:=by rw [e4];simp
 refine ⟨rfl,?_⟩
 refine zk fun h6 ob6 x6 l6=>?_
 have ob6:Obj h6 h4.length (FilC c u q bq s3 Sl.nil Sl.nil):=ob6
 have x06:=x1.trans (x4.trans x6)
 refine (rq.ext x06).ldG (i:=0) (by omega) (by omega) fun v0 rv0 lv0=>?_
 replace lv0:v0.len=(rw_ plan 0).length:=lv0
 clear rv0
 rw [lv0]
 refine zsV _ _ _ _ _ (fun i g=>∃(k:Nat) (pv:Sl),i=k∧k≤(rw_ plan 0).length∧Obj g h4.length (FilC c u q bq pv Sl.nil Sl.nil)∧Ow g pv 1 (ic (powL c.toNat k))∧pv.o=some h1.length∧Ext h g∧Obj g h.length (SetC c u)∧h6.length≤g.length) (fun i _=>((rw_ plan 0).length-i).toNat) ?_ _
  ⟨0,s3,rfl,by omega,ob6,os3.ext x6,so3,x06,o0.ext (x4.trans x6),Nat.le_refl _⟩
 rintro X _ g ⟨k,pv,rfl,hk,ob,op,so,xg,o0,lg⟩ hX
 unfold ztf zFO
 have lpv:pv.len=k+1:=by have:=op.rd.ilen;rw [wR] at this;exact this
 have hck:c.toNat^(k+1)≤46656:=zV d1 (by omega)
 refine zc (fun hi=>?_) (fun hi=>?_)
 ·refine ⟨rfl,rfl,ob.ldS (i:=4) rfl rfl ⟨rfl,rfl,ob.ldS (i:=4) rfl rfl ⟨rfl,rfl,ob.ldS (i:=4) rfl rfl ?_⟩⟩⟩
  rw [lpv,zf (n:=((k+1:Nat):Int)-1) (by omega) (by omega),show ((k+1:Nat):Int)-1=(k:Int) by omega]
  refine op.rd.ldG (by omega) (by rw [wR];omega) ?_
  rw [Int.toNat_natCast,Zb (Nat.le_refl _)]
  refine zh (o0.ldI (i:=0) (m:=c) rfl rfl ?_)
  have ec:w64 (((c.toNat^k:Nat):Int)*c)=((c.toNat^(k+1):Nat):Int):=by
   rw [Nat.pow_succ] at hck ⊢
   rw [show ((c.toNat^k:Nat):Int)*c=((c.toNat^k*c.toNat:Nat):Int) by rw [Int.natCast_mul,d3]]
   exact zcj (by omega)
  rw [ec]
  refine zj (by rfl) fun s6 h7 os6 ls6 so6 e7=>?_
  have x7:Ext g h7:=by rw [e7];exact Ext.app _ _
  refine ⟨((ob.ext x7).cellE rfl).trans (ob.cellE rfl).symm,?_⟩
  refine yk (by omega) (op.ext x7) os6.rd (by rw [lpv,ls6];unfold lim;omega) fun s8 h9 os8 ls8 b9 k9 _=>?_
  rw [so] at b9
  have so8:=k9 _ so
  have ob9:=(ob.ext x7).but b9 (sne (by omega))
  refine ⟨rfl,rfl,ob9.st1 (n:=7) (i:=4) rfl (by decide) _ fun h10 ob10 b10 n10=>?_⟩
  rw [zf (n:=(k:Int)+1) (by omega) (by omega)]
  have lb9:=b9.1
  have lx7:=x7.len
  refine hX _ _ ⟨k+1,s8,by push_cast;rfl,by omega,ob10,?_,so8,((xg.trans x7).but_ b9 (zi (by omega))).but_ b10 (zi (by omega)),((o0.ext x7).but b9 (sne (by omega))).but b10 (sne (by omega)),by omega⟩ (by omega)
  have o9:Ow h9 s8 1 (ic (powL c.toNat (k+1))):=by rw [zqO,qS];exact os8
  exact o9.but b10 (.inl (by rw [so8];exact sne (by omega)))
 ·have hkw:k=(rw_ plan 0).length:=by omega
  subst hkw
  refine ⟨rfl,rfl,ob.ldS (i:=4) rfl rfl ⟨rfl,rfl,ob.ldS (i:=4) rfl rfl ?_⟩⟩
  rw [lpv,zf (n:=(((rw_ plan 0).length+1:Nat):Int)-1) (by omega) (by omega),show (((rw_ plan 0).length+1:Nat):Int)-1=((rw_ plan 0).length:Int) by omega]
  refine op.rd.ldG (by omega) (by rw [wR];omega) ?_
  rw [Int.toNat_natCast,Zb (Nat.le_refl _)]
  refine zh (o0.ldI (i:=0) (m:=c) rfl rfl ?_)
  have ec:w64 (((c.toNat^(rw_ plan 0).length:Nat):Int)*c)=((dpOf c ts plan borders).lim:Int):=by
   rw [elim]
   rw [elim] at hlim
   rw [show ((c.toNat^(rw_ plan 0).length:Nat):Int)*c=((c.toNat^(rw_ plan 0).length*c.toNat:Nat):Int) by rw [Int.natCast_mul,d3]]
   exact zcj (by omega)
  rw [ec]
  refine qQ (by omega) (by unfold lim;omega) fun s5 h7 os5 ls5 so5 e7=>?_
  have x7:Ext g h7:=by rw [e7];exact Ext.app _ _
  have l7:h7.length=g.length+1:=by rw [e7];simp
  have hz:(List.replicate (((dpOf c ts plan borders).lim:Nat):Int).toNat [AVal.int .i64 0]).flatten=ic (List.replicate (dpOf c ts plan borders).lim 0):=by
   unfold ic
   rw [List.map_replicate,Int.toNat_natCast];simp
  rw [hz] at os5
  have ls5':s5.len=(dpOf c ts plan borders).lim:=by rw [ls5];omega
  refine os5.stI (i:=0) (by omega) (by omega) _ fun h8 os8 b8 n8=>?_
  rw [so5] at b8
  have x8:Ext g h8:=x7.but_ b8 (zi (Nat.le_refl _))
  refine ⟨rfl,rfl,(ob.ext x8).ldS (i:=5) rfl rfl ?_⟩
  refine zj (by rfl) fun s10 h11 os10 ls10 so10 e11=>?_
  have x11:Ext h8 h11:=by rw [e11];exact Ext.app _ _
  have l11:h11.length=h8.length+1:=by rw [e11];simp
  have x811:=x8.trans x11
  have lx811:=x811.len
  refine yk (by omega) (Ow.nil h11 1) os10.rd (by rw [ls10];unfold lim;simp [Sl.nil]) fun s12 h13 os12 ls12 b13 _ k13=>?_
  have x13:Ext h11 h13:=b13.ext (fun i e=>by cases e)
  have hoc:∃oc,s12.o=some oc:=by
   obtain ⟨_,b⟩ | ⟨o,a,_⟩:=os12.at_
   ·rw [ls10] at ls12;omega
   ·exact ⟨o,a⟩
  obtain ⟨oc,hoc⟩:=hoc
  have hocl:=k13 rfl oc hoc
  have xg13:=x811.trans x13
  have ob13:=ob.ext xg13
  refine ⟨rfl,rfl,ob13.st1 (n:=7) (i:=5) rfl (by decide) _ fun h14 ob14 b14 n14=>?_⟩
  have xh14:Ext h h14:=(xg.trans xg13).but_ b14 (zi (by omega))
  have pw14:Rd h14 pv 1 (ic (powL c.toNat (rw_ plan 0).length)):=(op.ext xg13).rd.but b14 (.inl (by rw [so];exact sne (by omega)))
  have o014:=(o0.ext xg13).but b14 (sne (by omega))
  have fil:∀g',Ext h g'→Rd g' pv 1 (ic (powL c.toNat (rw_ plan 0).length))→FilH c ts plan borders u q bq pv g':=fun g' x r=>⟨ru.ext x,rq.ext x,rb.ext x,r⟩
  refine zgF hs hp (fil _ xh14 pw14) ob14 ?_
  rw [←esz]
  have hst:∀g',Chg (fun i=>i=h4.length∨i=oc) h14 g'→FilH c ts plan borders u q bq pv g'∧Obj g' h.length (SetC c u):=fun g' ch=>by
   refine ⟨fil g' (xh14.chg_ ch fun i hi=>by omega) (pw14.chg ch fun i e hi=>by rw [so] at e;cases e;omega),o014.chg ch (by omega)⟩
  have t12:Ow h14 s12 1 [.sl s5]:=(show Ow h13 s12 1 [.sl s5] from os12).but b14 (.inl (by rw [hoc];exact sne (by omega)))
  have row5:Rd h14 s5 1 (ic ((List.replicate (dpOf c ts plan borders).lim 0).set 0 1)):=((os8.ext x11).ext x13).rd.but b14 (.inl (by rw [so5];exact sne (by omega)))
  have hcr:CntRow (dpOf c ts plan borders) 0 ((List.replicate (dpOf c ts plan borders).lim 0).set 0 1):=⟨by simp,fun s hs'=>by
   rw [Xm (by simp;exact hlim0)]
   show _=sv (if s=0 then 1 else 0)
   split
   ·next e=>rw [if_pos e.symm];rfl
   ·next e=>
    have:(List.replicate (dpOf c ts plan borders).lim (0:Int)).getD s 0=0:=by rw [List.getD_eq_getElem?_getD,List.getElem?_replicate,if_pos hs'];rfl
    rw [this,if_neg fun h=>e h.symm];rfl⟩
  refine zIu hs hp hst (by omega) ob14 t12 hoc row5 hcr ⟨by rw [so5];exact sne (by omega),by rw [so5];exact sne (by omega)⟩ ?_
  rintro g2 cn cg ob2 ⟨vs,hvl,hvs⟩
  obtain ⟨f2,o02⟩:=hst g2 cg
  have xh2:Ext h g2:=xh14.chg_ cg fun i hi=>by omega
  unfold ztl
  refine zgF hs hp f2 ob2 ?_
  rw [←esz,zf (by omega) (by omega)]
  refine qQ (by omega) (by unfold lim;omega) fun alv g3 osa lsa soa e3=>?_
  have x3:Ext g2 g3:=by rw [e3];exact Ext.app _ _
  have hz2:(List.replicate ((((dpOf c ts plan borders).size:Nat):Int)+1).toNat [AVal.sl Sl.nil]).flatten=(List.replicate ((dpOf c ts plan borders).size+1) Sl.nil).map .sl:=by
   rw [List.map_replicate,show ((((dpOf c ts plan borders).size:Nat):Int)+1).toNat=(dpOf c ts plan borders).size+1 by omega];simp
  rw [hz2] at osa
  have hf2:=ob2.lt
  refine ⟨rfl,rfl,(ob2.ext x3).st1 (n:=7) (i:=6) rfl (by decide) _ fun g4 ob4 b4 n4=>?_⟩
  have ob4:Obj g4 h4.length (FilC c u q bq pv cn alv):=ob4
  have b24:But (some h4.length) g2 g4:=(x3.but _).trans b4
  have xh4:Ext h g4:=(xh2.trans x3).but_ b4 (zi (by omega))
  have pw4:Rd g4 pv 1 (ic (powL c.toNat (rw_ plan 0).length)):=f2.rp.but b24 (.inl (by rw [so];exact sne (by omega)))
  have o04:=(o02.ext x3).but b4 (sne (by omega))
  refine zgF hs hp (fil _ xh4 pw4) ob4 ?_
  rw [←esz]
  obtain ⟨rc4,rows4⟩:=hvs g4 b24
  obtain ⟨rc2,rows2⟩:=hvs g2 (But.refl _ _)
  have hcl:cn.len=(dpOf c ts plan borders).size+1:=by have:=rc2.len;rw [List.length_map,hvl,Nat.mul_one] at this;omega
  have lg2:h14.length≤g2.length:=cg.1
  have hgl:=xg13.len
  have hna:cn.o≠some g2.length:=fun e=>by have:=rc2.olt (by omega) e;omega
  have hnw:∀(j:Nat) w,vs[j]? = some w→w.o≠some g2.length:=fun j w hw e=>by
   obtain ⟨l,r,y⟩:=rows2 j w hw
   have:=r.ilen
   rw [y.1] at this
   have:=r.olt (by omega) e
   omega
  refine zIt (u:=u) (q:=q) (bq:=bq) (pw:=pv) hs hp (fun g' b=>?_) hvl rc4 hna (fun j w hw=>⟨hnw j w hw,rows4 j w hw⟩) (osa.but b4 (.inl (by rw [soa];exact sne (by omega)))) soa ?_
  ·exact ⟨fil g' (xh4.but_ b (zi (by omega))) (pw4.but b (.inl (by rw [so];exact sne (by omega)))),o04.but b (sne (by omega)),ob4.but b (sne (by omega))⟩
  ·intro g' b at_
   have xg':Ext h g':=xh4.but_ b (zi (by omega))
   exact ⟨_,rfl,⟨h4.length,pv,cn,alv,rfl,ob4.but b (sne (by omega)),fil g' xg' (pw4.but b (.inl (by rw [so];exact sne (by omega)))),at_,vs,hvl,rc4.but b (.inl (Ne.symm hna)),fun j w hw=>by
    obtain ⟨l,r,y⟩:=rows4 j w hw
    exact ⟨l,r.but b (.inl (Ne.symm (hnw j w hw))),y⟩⟩,xg'⟩
open Classical in
noncomputable def atL (D:Dp) (p k:Nat):List Int:=((List.range k).filter fun i=>decide (D.at_ p i)).map fun (i:Nat)=>(i:Int)
open Classical in
theorem Xu (D:Dp) (p k:Nat):atL D p (k+1)=atL D p k++if D.at_ p k then [(k:Int)] else []:=by
 unfold atL
 rw [List.range_succ,List.filter_append,List.map_append]
 congr 1
 by_cases h:D.at_ p k
 ·rw [if_pos h];simp [h]
 ·rw [if_neg h];simp [h]
theorem zAH (D:Dp) (p k:Nat):(atL D p k).length≤k:=by
 unfold atL
 rw [List.length_map]
 exact Nat.le_trans (List.length_filter_le _ _) (by simp)
theorem Wl (hs:setOK c ts) (hp:zJ c ts.length plan borders) {h:H} {fo:Nat} {pw cn al:Sl} (ob:Obj h fo (FilC c u q bq pw cn al)) (f:FilH c ts plan borders u q bq pw h) (at_:AlvT (dpOf c ts plan borders) h al) {p:Nat} (hpl:p<plan.length*(rw_ plan 0).length):
  callS SP zBO [.ptr ⟨some fo,7,0⟩,i64 p] h fun v h'=>Ow h' v 1 (ic (atL (dpOf c ts plan borders) p ts.length))∧v.o=some h.length∧Ext h h':=by
 obtain ⟨d1,d2,d3,d4,d5,d6,d7,d8,d9⟩:=dims hs hp
 have ok:=wF hs hp
 have hfit:=fun {h:H} {cn al:Sl} (f:FilH c ts plan borders u q bq pw h) (ob:Obj h fo (FilC c u q bq pw cn al)) (s p i:Nat) (a:s<(dpOf c ts plan borders).c^((dpOf c ts plan borders).w+1)) (b:i<ts.length) (d:p<plan.length*(rw_ plan 0).length)=>zlZ hs hp f ob a b d
 have Dn':(dpOf c ts plan borders).n=ts.length:=rfl
 have Ds':(dpOf c ts plan borders).size=plan.length*(rw_ plan 0).length:=rfl
 have Dc':(dpOf c ts plan borders).c=c.toNat:=rfl
 have Dw':(dpOf c ts plan borders).w=(rw_ plan 0).length:=rfl
 generalize dpOf c ts plan borders=D at ok hfit Dn' Ds' Dc' Dw' at_ ⊢
 have hlim:D.lim≤46656:=zV (by omega) (by omega)
 obtain ⟨vs,hvl,rvs,hrow⟩:=at_
 have hal:al.len=D.size+1:=by have:=rvs.len;rw [List.length_map,hvl,Nat.mul_one] at this;omega
 have hul:=f.ru.tlen
 apply zCt
 unfold zdd
 refine zj (by rfl) fun s0 h1 os0 ls0 so0 e1=>?_
 have x1:Ext h h1:=by rw [e1];exact Ext.app _ _
 refine ⟨rfl,rfl,rfl,(ob.ext x1).ldS (i:=1) rfl rfl ?_⟩
 rw [hul]
 refine zsJ _ _ _ _ _ (fun s i g=>∃k:Nat,i=k∧k≤ts.length∧Ow g s 1 (ic (atL D p k))∧s.o=some h.length∧Ext h g) (fun _ i _=>(ts.length-i).toNat) ?_ _ _
  ⟨0,rfl,by omega,os0,so0,x1⟩
 rintro X s _ g ⟨i,rfl,hi,os,so,xg⟩ hX
 unfold zsN zFA
 refine zc (fun hi2=>?_) (fun hi2=>?_)
 ·have hil:i<ts.length:=by omega
  refine ⟨rfl,rfl,(ob.ext xg).ldS (i:=6) rfl rfl ?_⟩
  refine (rvs.ext xg).ldS (by omega) (by omega) fun w hw=>?_
  rw [Int.toNat_natCast] at hw
  obtain ⟨bl,rb1,yb⟩:=hrow p w hw
  have lw:w.len=D.lim:=by have:=rb1.len;rw [List.length_map,yb.1,Nat.mul_one] at this;omega
  rw [lw]
  have hls:=os.rd.ilen
  have hal2:=zAH D p i
  have nxt:∀g' s',Ow g' s' 1 (ic (atL D p (i+1)))→s'.o=some h.length→Ext h g'→X (zbx ⟨some fo,7,0⟩ p s' (ts.length:Nat) (w64 (i+1))) g':=fun g' s' o' so' x'=>by
   rw [zf (n:=(i:Int)+1) (by omega) (by omega)]
   exact hX _ _ _ ⟨i+1,by push_cast;rfl,by omega,o',so',x'⟩ (by omega)
  refine zsI _ _ X _ _ _ _ _ _ (fun sv st g'=>∃k:Nat,sv=s∧st=k∧k≤D.lim∧(∀s',s'<k→¬(D.alive p s'∧D.can s' p i=true∧D.alive (p+1) (D.stepI s' p i)))∧Ow g' s 1 (ic (atL D p i))∧Ext h g') (fun _ st _=>(D.lim-st).toNat) ?_ _ _
   ⟨0,rfl,rfl,by omega,fun s' h=>by omega,os,xg⟩
  rintro Y sv _ g2 ⟨st,esv,rfl,hst,hno,os2,x2⟩ hY
  subst esv
  unfold zsM zsO zFz
  refine zc (fun hi3=>?_) (fun hi3=>?_)
  ·have hstl:st<D.lim:=by omega
   have go:∀g',Ext h g'→Ow g' sv 1 (ic (atL D p i))→¬(D.alive p st∧D.can st p i=true∧D.alive (p+1) (D.stepI st p i))→Y (YY ⟨some fo,7,0⟩ p sv i (ts.length:Nat) i (D.lim:Nat) (w64 (st+1))) g':=fun g' x' o' hn=>by
    rw [zf (n:=(st:Int)+1) (by omega) (by omega)]
    refine hY _ _ _ ⟨st+1,rfl,by push_cast;rfl,by omega,fun s' hs'=>?_,o',x'⟩ (by omega)
    by_cases e:s'=st
    ·rw [e];exact hn
    ·exact hno s' (by omega)
   refine ⟨rfl,rfl,(ob.ext x2).ldS (i:=6) rfl rfl ?_⟩
   refine (rvs.ext x2).ldS (by omega) (by omega) fun w' hw'=>?_
   rw [Int.toNat_natCast,hw] at hw'
   cases hw'
   refine Rd.ldB (rb1.ext x2) (by omega) (by rw [yb.1];omega) fun b hb=>?_
   rw [Int.toNat_natCast] at hb
   have hba:b=true↔D.alive p st:=by
    have:=yb.2 st hstl
    rw [List.getD_eq_getElem?_getD,hb] at this
    exact this
   refine zr (fun qb=>go _ x2 os2 fun h=>by have:=hba.2 h.1;rw [qb] at this;cases this) (fun qb=>?_)
   refine (hfit (f.ext x2) (ob.ext x2) st p i hstl hil hpl).to ?_
   rintro _ g3 ⟨rfl,x3⟩
   have x03:=x2.trans x3
   have os3:=os2.ext x3
   refine ⟨_,rfl,_,rfl,_,rfl,_,rfl,?_⟩
   refine yy (fun qc=>?_) (fun qc=>go _ x03 os3 fun h=>by have:=h.2.1;rw [qc] at this;cases this)
   refine ⟨rfl,rfl,(ob.ext x03).ldS (i:=6) rfl rfl ?_⟩
   rw [zf (n:=(p:Int)+1) (by omega) (by omega)]
   refine (rvs.ext x03).ldS (by omega) (by omega) fun wn hwn=>?_
   rw [show ((p:Int)+1).toNat=p+1 by omega] at hwn
   obtain ⟨bn,rbn,ybn⟩:=hrow (p+1) wn hwn
   rw [if_pos qc]
   have hsi:D.stepI st p i<D.lim:=Dp.stepI_lt ok (by omega)
   refine Rd.ldB (rbn.ext x03) (by omega) (by rw [ybn.1];omega) fun b2 hb2=>?_
   rw [Int.toNat_natCast] at hb2
   have hba2:b2=true↔D.alive (p+1) (D.stepI st p i):=by
    have:=ybn.2 _ hsi
    rw [List.getD_eq_getElem?_getD,hb2] at this
    exact this
   refine yy (fun qb2=>?_) (fun qb2=>go _ x03 os3 fun h=>by have:=hba2.2 h.2.2;rw [qb2] at this;cases this)
   refine zqM os3 (by unfold lim;omega) fun s' g5 os5 b5 k5=>?_
   rw [so] at b5
   refine nxt _ _ ?_ (k5 _ so) (x03.but_ b5 (zi (Nat.le_refl _)))
   rw [Xu,if_pos ⟨st,hba.1 qb,qc,hba2.1 qb2⟩]
   exact os5
  ·have hstl:st=D.lim:=by omega
   subst hstl
   refine nxt _ _ ?_ so x2
   rw [Xu,if_neg (fun ⟨s',h1,h2,h3⟩=>hno s' (Dp.reach_lt ok p s' h1.1) ⟨h1,h2,h3⟩),List.append_nil]
   exact os2
 ·have hil:i=ts.length:=by omega
  subst hil
  exact ⟨_,rfl,os,so,xg⟩
end
end Go.Proofs.YtlcgclmobfdbcaaGreat.Cl
set_option linter.unusedVariables false
set_option linter.unusedSimpArgs false
namespace Go.Proofs.YtlcgclmobfdbcaaGreat.Cl
open Go
def ColL (c:Int) (l:List Int):Prop:=∀j,j<l.length→0≤l.getD j 0∧l.getD j 0≤c-1
theorem zLx {c:Int} {l:List Int}:(!l.any fun x=> !decide (0≤x∧x≤c-1))=true↔ColL c l:=by
 rw [Bool.not_eq_true',List.any_eq_false]
 unfold ColL
 constructor
 ·intro h j hj
  have:=h (l.getD j 0) (by rw [List.getD_eq_getElem?_getD,List.getElem?_eq_getElem hj];exact List.getElem_mem hj)
  simpa using this
 ·intro h x hx
  obtain ⟨j,hj,rfl⟩:=List.mem_iff_getElem.1 hx
  have:=h j hj
  rw [List.getD_eq_getElem?_getD,List.getElem?_eq_getElem hj] at this
  simpa using this
section
variable {h0:H} {c:Int} {s q bq:Sl} {ts:List Tile} {plan borders:List (List Int)}
theorem zBE {w:Sl} {l:List Int} (hc:1≤c∧c≤6) (r:Rd h0 w 1 (ic l)) (h1:1≤l.length) (h2:l.length≤20):callB SP zbt [.agg (SetC c s),.sl w] h0 fun b h'=>(b=true↔ColL c l)∧Ext h0 h':=by
 have hl:=r.ilen
 apply zxp
 unfold WY
 refine zk fun h1 o1 x1 n1=>?_
 refine wO ?_
 refine zc (fun _=>?_) (fun hq=>by omega)
 refine (wB (r.ext x1) (by omega) zER _ (fun x=> !decide (0≤x∧x≤c-1)) fun x _ h x1'=>?_).to ?_
 ·apply zwi
  unfold Wz
  refine zh ((o1.ext x1').ldI (i:=0) (m:=c) rfl rfl ?_)
  rw [zf (by omega) (by omega)]
  exact wO ⟨_,rfl,rfl,Ext.refl _⟩
 ·rintro _ h' ⟨rfl,x⟩
  exact ⟨_,rfl,zLx,x1.trans x⟩
theorem zre {w:Sl} {l:List Int} (hc:1≤c∧c≤6) (r:Rd h0 w 1 (ic l)) (h2:l.length≤1048576):callB SP ZL [.agg (SetC c s),.sl w] h0 fun b h'=>(b=true↔ColL c l)∧Ext h0 h':=by
 have hl:=r.ilen
 apply zyK
 unfold VB
 refine zk fun h1 o1 x1 n1=>?_
 refine zoN _ _ _ _ (fun i h=>∃k:Nat,i=k∧k≤l.length∧h=h1∧∀j,j<k→0≤l.getD j 0∧l.getD j 0≤c-1) (fun i _=>(l.length-i).toNat) ?_ _ ⟨0,rfl,by omega,rfl,fun j hj=>by omega⟩
 rintro X _ _ ⟨k,rfl,hk,rfl,hj⟩ hX
 unfold zkt zyM
 refine zc (fun hi=>?_) (fun hi=>⟨_,rfl,⟨fun _ j hjl=>hj j (by omega),fun _=>rfl⟩,x1⟩)
 refine (r.ext x1).ldG (by omega) (by omega) ?_
 rw [Int.toNat_natCast]
 refine zh (o1.ldI (i:=0) (m:=c) rfl rfl ?_)
 rw [zf (n:=c-1) (by omega) (by omega),zf (n:=(k:Int)+1) (by omega) (by omega)]
 refine Yp ?_
 refine zr (fun hb=>⟨_,rfl,?_,x1⟩) (fun hb=>?_)
 ·simp only [Bool.false_eq_true,false_iff]
  intro t
  rw [decide_eq_false_iff_not] at hb
  exact hb (t k (by omega))
 ·rw [decide_eq_true_eq] at hb
  refine hX _ _ ⟨k+1,by push_cast;rfl,by omega,rfl,fun j hj2=>?_⟩ (by omega)
  by_cases e:j=k
  ·rw [e];exact hb
  ·exact hj j (by omega)
def zNm (n:Nat) (plan:List (List Int)):Prop:=∀y x,y<plan.length→x<(rw_ plan y).length→ -1≤G plan y x∧G plan y x<n
def ziP (c:Int) (plan borders:List (List Int)):Prop:=borders.length=4∧∀k,k<4→((rw_ borders k).length=0∨(rw_ borders k).length=if k%2=1 then (rw_ plan 0).length else plan.length)∧ColL c (rw_ borders k)
theorem planOK_iff {n:Nat}:zJ c n plan borders↔(zNm n plan∧Tabl plan 5)∧ziP c plan borders:=
 ⟨fun ⟨a,b,d,e⟩=>⟨⟨b,a⟩,d,e⟩,fun ⟨⟨b,a⟩,d,e⟩=>⟨a,b,d,e⟩⟩
theorem zBG (r:Rd h0 s 4 (tcs ts)) (rr:RdSS h0 q plan) (sz:ts.length≤1048576) (szr:plan.length≤1048576) (hrs:∀l∈plan,l.length≤1048576):
  callB SP zrS [.agg (SetC c s),.sl q] h0 fun b h'=>(b=true↔zNm ts.length plan∧Tabl plan 5)∧Ext h0 h':=by
 have hl:=r.tlen
 have hq:=rr.len
 apply zzu
 unfold V5
 refine zk fun h1 o1 x1 n1=>?_
 refine zpu _ _ _ _ _ _ (fun i h=>∃k:Nat,i=k∧k≤plan.length∧Ext h1 h∧∀y x,y<k→x<(rw_ plan y).length→ -1≤G plan y x∧G plan y x<ts.length) (fun i _=>(plan.length-i).toNat) ?_ _ ⟨0,rfl,by omega,Ext.refl _,fun y x hy=>by omega⟩
 rintro X _ h ⟨y,rfl,hy,x,hj⟩ hX
 unfold zkK zzz
 refine zc (fun hi=>?_) (fun hi=>?_)
 ·refine (rr.ext (x1.trans x)).ldG (by omega) (by omega) fun v rv lv=>?_
  rw [Int.toNat_natCast] at rv lv
  have hvl:(rw_ plan y).length≤1048576:=hrs _ (List.mem_of_getElem? (zLw (rows:=plan) (y:=y) (by omega)))
  refine zpt _ _ X _ _ _ _ _ _ _ (fun i h'=>∃k:Nat,i=k∧k≤(rw_ plan y).length∧Ext h h'∧∀x,x<k→ -1≤G plan y x∧G plan y x<ts.length) (fun k _=>((rw_ plan y).length-k).toNat) ?_ _ ⟨0,rfl,by omega,Ext.refl _,fun x hx=>by omega⟩
  rintro Y _ h' ⟨k,rfl,hk,x',hkk⟩ hY
  unfold zkJ zzx zzy
  have fwd:∀h2,Ext h' h2→(-1≤G plan y k∧G plan y k<ts.length)→k<(rw_ plan y).length→Y (Zq q ⟨some h0.length,2,0⟩ q q.len y v v.len (w64 ((k:Int)+1))) h2:=fun h2 x2 ho hlt=>by
   rw [zf (by omega) (by omega)]
   refine hY _ _ ⟨k+1,by push_cast;rfl,by omega,x'.trans x2,fun j hjj=>?_⟩ (by omega)
   by_cases e:j=k
   ·rw [e];exact ho
   ·exact hkk j (by omega)
  refine zc (fun hki=>?_) (fun hki=>?_)
  ·refine (rv.ext x').ldG (by omega) (by omega) ?_
   rw [Int.toNat_natCast,show (rw_ plan y).getD k 0=G plan y k from rfl]
   refine zF (fun hne=>?_) (fun he=>fwd _ (Ext.refl _) (by rw [he];omega) (by omega))
   refine (o1.ext (x.trans x')).ldA rfl ?_
   refine (znq _ (by omega)).to ?_
   rintro _ h2 ⟨rfl,x2⟩
   refine zr (fun hb=>⟨_,rfl,?_,(x1.trans x).trans (x'.trans x2)⟩) (fun hb=>?_)
   ·simp only [Bool.false_eq_true,false_iff]
    intro t
    have:=t.1 y k (by omega) (by omega)
    rw [decide_eq_false_iff_not] at hb
    omega
   ·rw [decide_eq_true_eq] at hb
    exact fwd _ x2 (by omega) (by omega)
  ·rw [zf (by omega) (by omega)]
   refine hX _ _ ⟨y+1,by push_cast;rfl,by omega,x.trans x',fun j z hjj hz=>?_⟩ (by omega)
   by_cases e:j=y
   ·rw [e] at hz ⊢;exact hkk z (by omega)
   ·exact hj j z (by omega) hz
 ·refine (zrm (rr.ext (x1.trans x)) 5 (by omega)).to ?_
  rintro b _ ⟨hb,rfl⟩
  exact ⟨_,rfl,hb.trans ⟨fun t=>⟨fun y' z hy' hz=>hj y' z (by omega) hz,t⟩,fun t=>t.2⟩,x1.trans x⟩
theorem ziK (hc:1≤c∧c≤6) (rr:RdSS h0 q plan) (rb:RdSS h0 bq borders) (hT:Tabl plan 5) (szb:borders.length≤1048576):
  callB SP zrR [.agg (SetC c s),.sl q,.sl bq] h0 fun b h'=>(b=true↔ziP c plan borders)∧Ext h0 h':=by
 have hq:=rr.len
 have hbl:=rb.len
 have hT0:=hT.2 0 (by have:=hT.1;omega)
 have hT1:=hT.1
 apply zzp
 unfold VZ
 refine zk fun h1 o1 x1 n1=>?_
 refine zF (fun hn=>⟨_,rfl,?_,x1⟩) (fun hn=>?_)
 ·simp only [Bool.false_eq_true,false_iff]
  intro t;have:=t.1;omega
 refine zpr _ _ _ _ _ _ (fun i h=>∃k:Nat,i=k∧k≤4∧Ext h1 h∧∀j,j<k→((rw_ borders j).length=0∨(rw_ borders j).length=if j%2=1 then (rw_ plan 0).length else plan.length)∧ColL c (rw_ borders j)) (fun i _=>(4-i).toNat) ?_ _ ⟨0,rfl,by omega,Ext.refl _,fun y hy=>by omega⟩
 rintro X _ h ⟨k,rfl,hk,x,hj⟩ hX
 unfold zkI zzr
 refine zc (fun hi=>?_) (fun hi=>⟨_,rfl,⟨fun _=>⟨by omega,fun j hj4=>hj j (by omega)⟩,fun _=>rfl⟩,x1.trans x⟩)
 have xx:=x1.trans x
 refine (rb.ext xx).ldG (by omega) (by omega) fun v rv lv=>?_
 rw [Int.toNat_natCast] at rv lv
 have no:∀h',Ext h h'→¬(((rw_ borders k).length=0∨(rw_ borders k).length=if k%2=1 then (rw_ plan 0).length else plan.length)∧ColL c (rw_ borders k))→∃r,AVal.bool false = .bool r∧(r=true↔ziP c plan borders)∧Ext h0 h':=fun h' x' hn=>
  ⟨_,rfl,by simp only [Bool.false_eq_true,false_iff];exact fun t=>hn (t.2 k (by omega)),xx.trans x'⟩
 have yes:∀h',Ext h h'→(((rw_ borders k).length=0∨(rw_ borders k).length=if k%2=1 then (rw_ plan 0).length else plan.length)∧ColL c (rw_ borders k))→X (xu q ⟨some h0.length,2,0⟩ bq bq.len (w64 ((k:Int)+1))) h':=fun h' x' hn=>by
  rw [zf (by omega) (by omega)]
  refine hX _ _ ⟨k+1,by push_cast;rfl,by omega,x.trans x',fun j hjj=>?_⟩ (by omega)
  by_cases e:j=k
  ·rw [e];exact hn
  ·exact hj j (by omega)
 have main:∀size:Nat,(size=if k%2=1 then (rw_ plan 0).length else plan.length)→bif decide ((v.len:Int)>0) then (bif (v.len:Int) != (size:Int) then (∃r,AVal.bool false = .bool r∧(r=true↔ziP c plan borders)∧Ext h0 h) else Cl.ldA ⟨some h0.length,2,0⟩ 2 h fun cs=>callB SP zbt [.agg cs,.sl v] h fun b h'=>bif (!b) then (∃r,AVal.bool false = .bool r∧(r=true↔ziP c plan borders)∧Ext h0 h') else X (xu q ⟨some h0.length,2,0⟩ bq bq.len (w64 ((k:Int)+1))) h')
   else X (xu q ⟨some h0.length,2,0⟩ bq bq.len (w64 ((k:Int)+1))) h:=fun size hsz=>by
  have hs5:size≤5:=by rw [hsz];split <;> omega
  refine zc (fun hp=>?_) (fun hp=>yes _ (Ext.refl _) ⟨.inl (by omega),fun j hjl=>by omega⟩)
  refine zF (fun hne=>no _ (Ext.refl _) fun t=>?_) (fun he=>?_)
  ·rcases t.1 with t | t
   ·omega
   ·rw [←hsz] at t;omega
  refine (o1.ext x).ldA rfl ?_
  refine (zBE (s:=s) hc rv (by omega) (by omega)).to ?_
  rintro b h2 ⟨hb,x2⟩
  refine zr (fun hq=>no _ x2 fun t=>by rw [hb.2 t.2] at hq;cases hq) (fun hq=>yes _ x2 ⟨.inr (by rw [←hsz];omega),hb.1 hq⟩)
 refine zp (fun e1=>?_) (fun e1=>zp (fun e3=>?_) (fun e3=>?_))
 ·refine (rr.ext xx).ldG (i:=0) (by omega) (by omega) fun v0 rv0 lv0=>?_
  replace lv0:v0.len=(rw_ plan 0).length:=lv0
  rw [lv0]
  exact main _ (by rw [if_pos (by omega)])
 ·refine (rr.ext xx).ldG (i:=0) (by omega) (by omega) fun v0 rv0 lv0=>?_
  replace lv0:v0.len=(rw_ plan 0).length:=lv0
  rw [lv0]
  exact main _ (by rw [if_pos (by omega)])
 ·rw [hq]
  exact main _ (by rw [if_neg (by omega)])
noncomputable def zX (c:Int) (ts:List Tile) (plan borders:List (List Int)):Int:=yf (setOK c ts) (zJ c ts.length plan borders)
theorem qq (r:Rd h0 s 4 (tcs ts)) (rr:RdSS h0 q plan) (rb:RdSS h0 bq borders) (sz:ts.length≤1048576) (szr:plan.length≤1048576) (hrs:∀l∈plan,l.length≤1048576) (szb:borders.length≤1048576):
  callI SP .i64 znr [.agg (SetC c s),.sl q,.sl bq] h0 fun n h'=>n=zX c ts plan borders∧Ext h0 h':=by
 apply zCx
 unfold zdn
 refine zk fun h1 o1 x1 n1=>?_
 refine yQ fun h2 v2 x2 n2=>?_
 refine yQ fun h3 v3 x3 n3=>?_
 have x13:=x1.trans (x2.trans x3)
 refine (o1.ext (x2.trans x3)).ldA rfl ?_
 refine (zgK (r.ext x13) (by omega) _ _ (zJ c ts.length plan borders) fun hs h x=>?_).to ?_
 ·apply zzA
  unfold V7
  have xx:=x13.trans x
  refine (o1.ext ((x2.trans x3).trans x)).ldA rfl ?_
  refine (v2.ext (x3.trans x)).ldS ?_
  refine (zBG (r.ext xx) (rr.ext xx) sz szr hrs).to ?_
  rintro b h4 ⟨hb,x4⟩
  refine yy (fun hbt=>?_) (fun hbf=>⟨_,rfl,?_,x4⟩)
  ·have hp:=hb.1 hbt
   refine (o1.ext (((x2.trans x3).trans x).trans x4)).ldA rfl ?_
   refine (v2.ext ((x3.trans x).trans x4)).ldS ?_
   refine (v3.ext (x.trans x4)).ldS ?_
   refine (ziK hs.1 (rr.ext (xx.trans x4)) (rb.ext (xx.trans x4)) hp.2 szb).to ?_
   rintro b2 h5 ⟨hb2,x5⟩
   exact ⟨_,rfl,hb2.trans ⟨fun t=>planOK_iff.2 ⟨hp,t⟩,fun t=>(planOK_iff.1 t).2⟩,x4.trans x5⟩
  ·simp only [Bool.false_eq_true,false_iff]
   intro t
   rw [hb.2 (planOK_iff.1 t).1] at hbf;cases hbf
 ·rintro n h4 ⟨rfl,x4⟩
  exact ⟨_,rfl,rfl,x13.trans x4⟩
theorem zhd (r:Rd h0 s 4 (tcs ts)) (rr:RdSS h0 q plan) (rb:RdSS h0 bq borders) (sz:ts.length≤1048576) (szr:plan.length≤1048576) (hrs:∀l∈plan,l.length≤1048576) (szb:borders.length≤1048576) (hrb:∀l∈borders,l.length≤1048576):
  callI SP .i64 zBN [.agg (SetC c s),.sl q,.sl bq] h0 fun n h'=>n=zX c ts plan borders∧Ext h0 h':=by
 have hl:=r.tlen
 have hq:=rr.len
 have hbl:=rb.len
 apply zCs
 unfold zda
 refine zk fun h1 o1 x1 n1=>?_
 refine o1.ldA rfl ?_
 refine (Yo (r.ext x1)).to ?_
 rintro b h2 ⟨hb,x2⟩
 refine zr (fun hbf=>⟨_,rfl,(yN fun t=>by rw [hb.2 t] at hbf;cases hbf).symm,x1.trans x2⟩) (fun hbt=>?_)
 have hs:=hb.1 hbt
 have xx:=x1.trans x2
 have no:∀h',Ext h2 h'→¬zJ c ts.length plan borders→∃r,AVal.int .i64 2 = .int .i64 r∧r=zX c ts plan borders∧Ext h0 h':=fun h' x' hn=>⟨_,rfl,(yG hs hn).symm,xx.trans x'⟩
 refine zc (fun e=>no _ (Ext.refl _) fun t=>by have:=t.1.1;omega) (fun e=>?_)
 refine zc (fun e=>no _ (Ext.refl _) fun t=>by have:=t.1.1;omega) (fun e2=>?_)
 refine (rr.ext xx).ldG (i:=0) (by omega) (by omega) fun v0 rv0 lv0=>?_
 replace lv0:v0.len=(rw_ plan 0).length:=lv0
 refine zc (fun e=>no _ (Ext.refl _) fun t=>by have:=t.1.2 0 (by omega);omega) (fun e3=>?_)
 refine (rr.ext xx).ldG (i:=0) (by omega) (by omega) fun v1 rv1 lv1=>?_
 replace lv1:v1.len=(rw_ plan 0).length:=lv1
 refine zc (fun e=>no _ (Ext.refl _) fun t=>by have:=t.1.2 0 (by omega);omega) (fun e4=>?_)
 refine zF (fun e=>no _ (Ext.refl _) fun t=>by have:=t.2.2.1;omega) (fun e5=>?_)
 refine zsB _ _ _ _ _ (fun i h=>∃k:Nat,i=k∧k≤plan.length∧Ext h2 h∧∀y,y<k→(rw_ plan y).length=(rw_ plan 0).length∧∀x,x<(rw_ plan y).length→ -1≤G plan y x∧G plan y x<ts.length) (fun i _=>(plan.length-i).toNat) ?_ _ ⟨0,rfl,by omega,Ext.refl _,fun y hy=>by omega⟩
 rintro X _ h ⟨y,rfl,hy,x,hj⟩ hX
 unfold zsH zFu
 have xg:=xx.trans x
 refine zc (fun hi=>?_) (fun hi=>?_)
 ·refine (rr.ext xg).ldG (by omega) (by omega) fun v rv lv=>?_
  rw [Int.toNat_natCast] at rv lv
  refine (rr.ext xg).ldG (i:=0) (by omega) (by omega) fun v0' rv0' lv0'=>?_
  replace lv0':v0'.len=(rw_ plan 0).length:=lv0'
  refine zF (fun e=>no _ x fun t=>by have:=t.1.2 y (by omega);omega) (fun e6=>?_)
  refine zsA _ _ X _ _ _ _ (fun i h'=>∃k:Nat,i=k∧k≤(rw_ plan y).length∧Ext h h'∧∀x,x<k→ -1≤G plan y x∧G plan y x<ts.length) (fun k _=>((rw_ plan y).length-k).toNat) ?_ _ ⟨0,rfl,by omega,Ext.refl _,fun x hx=>by omega⟩
  rintro Y _ h' ⟨k,rfl,hk,x',hkk⟩ hY
  unfold zsG zFs zFt
  have xg':=xg.trans x'
  refine (rr.ext xg').ldG (by omega) (by omega) fun u ru lu=>?_
  rw [Int.toNat_natCast] at ru lu
  refine zc (fun hki=>?_) (fun hki=>?_)
  ·refine (rr.ext xg').ldG (by omega) (by omega) fun u2 ru2 lu2=>?_
   rw [Int.toNat_natCast] at ru2 lu2
   refine ru2.ldG (by omega) (by omega) ?_
   rw [Int.toNat_natCast,show (rw_ plan y).getD k 0=G plan y k from rfl]
   refine zh ((o1.ext ((x2.trans x).trans x')).ldS rfl rfl ?_)
   rw [zf (n:=(s.len:Int)-1) (by omega) (by omega),zf (n:=(k:Int)+1) (by omega) (by omega)]
   refine Yp ?_
   refine zr (fun hq=>no _ (x.trans x') fun t=>?_) (fun hq=>?_)
   ·have:=t.2.1 y k (by omega) (by omega)
    rw [decide_eq_false_iff_not] at hq
    omega
   ·rw [decide_eq_true_eq] at hq
    refine hY _ _ ⟨k+1,by push_cast;rfl,by omega,x',fun j hjj=>?_⟩ (by omega)
    by_cases e:j=k
    ·rw [e];omega
    ·exact hkk j (by omega)
  ·rw [zf (by omega) (by omega)]
   refine hX _ _ ⟨y+1,by push_cast;rfl,by omega,x.trans x',fun j hjj=>?_⟩ (by omega)
   by_cases e:j=y
   ·rw [e];exact ⟨by omega,fun z hz=>hkk z (by omega)⟩
   ·exact hj j (by omega)
 ·have hpl:y=plan.length:=by omega
  subst hpl
  have hT:Tabl plan 5:=⟨⟨by omega,by omega⟩,fun y hy=>by have:=(hj y hy).1;omega⟩
  refine zsz _ _ _ _ _ (fun i h'=>∃k:Nat,i=k∧k≤4∧Ext h h'∧∀j,j<k→((rw_ borders j).length=0∨(rw_ borders j).length=if j%2=1 then (rw_ plan 0).length else plan.length)∧ColL c (rw_ borders j)) (fun i _=>(4-i).toNat) ?_ _ ⟨0,rfl,by omega,Ext.refl _,fun y hy=>by omega⟩
  rintro Y _ h' ⟨k,rfl,hk,x',hkk⟩ hY
  unfold zsF zFr
  refine zc (fun hki=>?_) (fun hki=>⟨_,rfl,(zW hs (planOK_iff.2 ⟨⟨fun y x hy hx=>(hj y hy).2 x hx,hT⟩,by omega,fun j hj4=>hkk j (by omega)⟩)).symm,xg.trans x'⟩)
  have xg':=xg.trans x'
  have o1':=o1.ext ((x2.trans x).trans x')
  have hbk:(rw_ borders k).length≤1048576:=hrb _ (List.mem_of_getElem? (zLw (rows:=borders) (y:=k) (by omega)))
  have yes:∀h'',Ext h' h''→(((rw_ borders k).length=0∨(rw_ borders k).length=if k%2=1 then (rw_ plan 0).length else plan.length)∧ColL c (rw_ borders k))→Y (vn q bq ⟨some h0.length,2,0⟩ (w64 ((k:Int)+1))) h'':=fun h'' x'' hn=>by
   rw [zf (by omega) (by omega)]
   refine hY _ _ ⟨k+1,by push_cast;rfl,by omega,x'.trans x'',fun j hjj=>?_⟩ (by omega)
   by_cases e:j=k
   ·rw [e];exact hn
   ·exact hkk j (by omega)
  have bad:∀h'',Ext h' h''→¬(((rw_ borders k).length=0∨(rw_ borders k).length=if k%2=1 then (rw_ plan 0).length else plan.length)∧ColL c (rw_ borders k))→∃r,AVal.int .i64 2 = .int .i64 r∧r=zX c ts plan borders∧Ext h0 h'':=fun h'' x'' hn=>
   no _ ((x.trans x').trans x'') fun t=>hn (t.2.2.2 k (by omega))
  have word:((rw_ borders k).length=0∨(rw_ borders k).length=if k%2=1 then (rw_ plan 0).length else plan.length)→Cl.ldA ⟨some h0.length,2,0⟩ 2 h' fun cs=>ixS bq 1 (k:Int) fun p=>Cl.ldS p h' fun sv=>callB SP ZL [.agg cs,.sl sv] h' fun b h''=>bif (!b) then (∃r,AVal.int .i64 2 = .int .i64 r∧r=zX c ts plan borders∧Ext h0 h'') else Y (vn q bq ⟨some h0.length,2,0⟩ (w64 ((k:Int)+1))) h'':=fun hlen=>by
   refine o1'.ldA rfl ?_
   refine (rb.ext xg').ldG (by omega) (by omega) fun u ru lu=>?_
   rw [Int.toNat_natCast] at ru lu
   refine (zre (s:=s) hs.1 ru hbk).to ?_
   rintro b h3 ⟨hb3,x3⟩
   exact zr (fun hq=>bad _ x3 fun t=>by rw [hb3.2 t.2] at hq;cases hq) (fun hq=>yes _ x3 ⟨hlen,hb3.1 hq⟩)
  have main:∀size:Nat,(size=if k%2=1 then (rw_ plan 0).length else plan.length)→ixS bq 1 (k:Int) fun p=>Cl.ldS p h' fun s3=>bif (s3.len:Int) != 0 then (ixS bq 1 (k:Int) fun p=>Cl.ldS p h' fun s5=>bif (s5.len:Int) != (size:Int) then (∃r,AVal.int .i64 2 = .int .i64 r∧r=zX c ts plan borders∧Ext h0 h') else
    Cl.ldA ⟨some h0.length,2,0⟩ 2 h' fun cs=>ixS bq 1 (k:Int) fun p=>Cl.ldS p h' fun sv=>callB SP ZL [.agg cs,.sl sv] h' fun b h''=>bif (!b) then (∃r,AVal.int .i64 2 = .int .i64 r∧r=zX c ts plan borders∧Ext h0 h'') else Y (vn q bq ⟨some h0.length,2,0⟩ (w64 ((k:Int)+1))) h'')
    else Cl.ldA ⟨some h0.length,2,0⟩ 2 h' fun cs=>ixS bq 1 (k:Int) fun p=>Cl.ldS p h' fun sv=>callB SP ZL [.agg cs,.sl sv] h' fun b h''=>bif (!b) then (∃r,AVal.int .i64 2 = .int .i64 r∧r=zX c ts plan borders∧Ext h0 h'') else Y (vn q bq ⟨some h0.length,2,0⟩ (w64 ((k:Int)+1))) h'':=fun size hsz=>by
   refine (rb.ext xg').ldG (by omega) (by omega) fun u ru lu=>?_
   rw [Int.toNat_natCast] at ru lu
   refine zF (fun e=>?_) (fun e=>word (.inl (by omega)))
   refine (rb.ext xg').ldG (by omega) (by omega) fun u2 ru2 lu2=>?_
   rw [Int.toNat_natCast] at ru2 lu2
   refine zF (fun e=>bad _ (Ext.refl _) fun t=>?_) (fun e=>word (.inr (by rw [←hsz];omega)))
   rcases t.1 with t | t
   ·omega
   ·rw [←hsz] at t;omega
  refine ⟨by omega,?_⟩
  rw [show Int.tmod (k:Int) 2=((k%2:Nat):Int) from rfl]
  refine zp (fun e1=>?_) (fun e1=>?_)
  ·refine (rr.ext xg').ldG (i:=0) (by omega) (by omega) fun v0 rv0 lv0=>?_
   replace lv0:v0.len=(rw_ plan 0).length:=lv0
   rw [lv0]
   exact main _ (by rw [if_pos (by omega)])
  ·rw [hq]
   exact main _ (by rw [if_neg (by omega)])
end
end Go.Proofs.YtlcgclmobfdbcaaGreat.Cl
set_option linter.unusedVariables false
set_option linter.unusedSimpArgs false
namespace Go.Proofs.YtlcgclmobfdbcaaGreat.Cl
open Go
theorem Obj.rangeE {h o cs} (x:Obj h o cs) {n:Nat} (hn:cs.length=n):Cl.range h (some o) n 0 n=some cs:=by
 have x':h[o]? = some (.own cs):=x
 subst hn
 rw [yX (xs:=cs) (by unfold cells;simp [x']) (by simp)]
 simp
theorem Obj.stays {h h' o cs} (x:Obj h o cs) {n:Nat} (hn:cs.length=n) (e:Ext h h'):Cl.range h' (some o) n 0 n=Cl.range h (some o) n 0 n:=by rw [e.range (x.rangeE hn),x.rangeE hn]
end Go.Proofs.YtlcgclmobfdbcaaGreat.Cl
set_option linter.unusedVariables false
set_option linter.unusedSimpArgs false
namespace Go.Proofs.YtlcgclmobfdbcaaGreat.Cl
open Go
theorem zNs {m i:Nat} (hm:m<65536) (hi:i<16):(yj .and .i64 (shrI .i64 (m:Int) (IntKind.wrap .u64 (i:Int))) 1==1)=m.testBit i:=by
 rw [zgv i hi]
 have e1:shrI .i64 (m:Int) (i:Int)=((m/2^i:Nat):Int):=by
  unfold shrI
  rw [Int.toNat_natCast,show min i (IntKind.bits .i64)=i from Nat.min_eq_left (show i≤64 by omega)]
  rw [Int.fdiv_eq_ediv_of_nonneg _ (Int.le_of_lt (Int.pow_pos (by decide)))]
  push_cast;rfl
 rw [e1]
 have hd:m/2^i≤m:=Nat.div_le_self _ _
 have e2:yj .and .i64 ((m/2^i:Nat):Int) 1=((m/2^i%2:Nat):Int):=by
  show w64 (((BitVec.ofInt 64 ((m/2^i:Nat):Int)) &&& (BitVec.ofInt 64 ((1:Nat):Int))).toNat:Int)=_
  rw [ZJ,ZJ,BitVec.toNat_and,BitVec.toNat_ofNat,BitVec.toNat_ofNat,Nat.mod_eq_of_lt (by omega),Nat.mod_eq_of_lt (by omega),Nat.and_one_is_mod]
  exact zf (by omega) (by omega)
 rw [e2,Nat.testBit_eq_decide_div_mod_eq]
 rw [Bool.eq_iff_iff,beq_iff_eq,decide_eq_true_eq]
 omega
def Z4 (m k:Nat):List Int:=((List.range k).filter fun i=>m.testBit i).map fun (i:Nat)=>(i:Int)
theorem YN (m k:Nat):Z4 m (k+1)=Z4 m k++if m.testBit k=true then [(k:Int)] else []:=by
 unfold Z4
 rw [List.range_succ,List.filter_append,List.map_append]
 congr 1
 by_cases h:m.testBit k=true
 ·rw [if_pos h];simp [h]
 ·rw [if_neg h];simp [h]
theorem zAD (m k:Nat):(Z4 m k).length≤k:=by
 unfold Z4
 rw [List.length_map]
 exact Nat.le_trans (List.length_filter_le _ _) (by simp)
open Classical in
theorem zAC {D:Dp} (ok:D.OK) {p m:Nat} (hp:p<D.size) (hs:zcf D p m):Z4 m D.n=atL D p D.n:=by
 unfold Z4 atL
 congr 1
 refine List.filter_congr fun i hi=>?_
 have hi':=List.mem_range.1 hi
 rw [Bool.eq_iff_iff,decide_eq_true_eq,hs.2 i,Dp.at_stand ok hp hi']
 exact ⟨fun h=>h.2,fun h=>⟨hi',h⟩⟩
noncomputable def Yk (plan:List (List Int)) (y x:Int):Prop:=(0≤y∧y≤(plan.length:Int)-1)∧0≤x∧x≤((rw_ plan 0).length:Int)-1
noncomputable def ye (c:Int) (ts:List Tile) (plan borders:List (List Int)) (y x:Int):Int:=yf (setOK c ts) (zJ c ts.length plan borders∧Yk plan y x)
open Classical in
noncomputable def zR (c:Int) (ts:List Tile) (plan borders:List (List Int)) (y x:Int):List Int:=
 if ye c ts plan borders y x=0 then atL (dpOf c ts plan borders) (y.toNat*(rw_ plan 0).length+x.toNat) ts.length else []
section
variable {c:Int} {ts:List Tile} {plan borders:List (List Int)} {u q bq:Sl} {h:H}
theorem Zc {y x:Int} (hp:zJ c ts.length plan borders) (hin:Yk plan y x):y.toNat*(rw_ plan 0).length+x.toNat<plan.length*(rw_ plan 0).length:=by
 obtain ⟨⟨a,b⟩,d,e⟩:=hin
 have:(y.toNat+1)*(rw_ plan 0).length≤plan.length*(rw_ plan 0).length:=Nat.mul_le_mul_right _ (by omega)
 rw [Nat.add_mul] at this
 omega
theorem zqQ {y x:Int} (hp:zJ c ts.length plan borders) (hin:Yk plan y x):w64 (w64 (y*((rw_ plan 0).length:Int))+x)=((y.toNat*(rw_ plan 0).length+x.toNat:Nat):Int):=by
 have hb:=Zc hp hin
 obtain ⟨⟨a,b⟩,d,e⟩:=hin
 have h5:=hp.1.1
 have h0:=hp.1.2 0 (by omega)
 have hm:plan.length*(rw_ plan 0).length≤5*5:=Nat.mul_le_mul (by omega) (by omega)
 have e1:y*((rw_ plan 0).length:Int)=((y.toNat*(rw_ plan 0).length:Nat):Int):=by
  rw [Int.natCast_mul,Int.toNat_of_nonneg a]
 rw [e1,zf (n:=((y.toNat*(rw_ plan 0).length:Nat):Int)) (by omega) (by omega),zf (by omega) (by omega)]
 omega
theorem zbZ {A B C:Prop} (hAB:yf A B=0) (hC:C):yf A (B∧C)=0:=by
 obtain ⟨a,b⟩:=zM hAB
 exact zW a ⟨b,hC⟩
theorem xK {A B C:Prop} (hAB:yf A B=0) (hC:¬C):yf A (B∧C)=2:=by
 obtain ⟨a,b⟩:=zM hAB
 exact yG a fun h=>hC h.2
theorem Z2 {A B C:Prop} (hAB:yf A B≠0):yf A (B∧C)=yf A B:=by
 unfold yf at hAB ⊢
 split
 ·next h=>
  rw [if_pos h] at hAB
  split at hAB
  ·exact absurd rfl hAB
  ·next h2=>rw [if_neg fun h=>h2 h.1,if_neg h2]
 ·rfl
theorem qR (r:Rd h u 4 (tcs ts)) (rr:RdSS h q plan) (rb:RdSS h bq borders) (sz:ts.length≤1048576) (szr:plan.length≤1048576) (hrs:∀l∈plan,l.length≤1048576) (szb:borders.length≤1048576) (hrb:∀l∈borders,l.length≤1048576) {y x:Int} (by_:vL y) (bx:vL x):
  callV SP zBZ [.agg (SetC c u),.sl q,.sl bq,i64 y,i64 x] h fun v h'=>∃s,v = .tuple [.sl s,i64 (ye c ts plan borders y x)]∧Ow h' s 1 (ic (zR c ts plan borders y x))∧Fr h.length s∧Ext h h':=by
 have hq:=rr.len
 apply zDL
 unfold zfL
 refine zk fun h1 o1 x1 l1=>?_
 refine o1.ldA rfl ?_
 refine (qq (r.ext x1) (rr.ext x1) (rb.ext x1) sz szr hrs szb).to ?_
 rintro _ h2 ⟨rfl,x2⟩
 have xx:=x1.trans x2
 have none:∀n h',ye c ts plan borders y x=n→n≠0→Ext h2 h'→∃s,AVal.tuple [.sl Sl.nil,.int .i64 n] = .tuple [.sl s,i64 (ye c ts plan borders y x)]∧Ow h' s 1 (ic (zR c ts plan borders y x))∧Fr h.length s∧Ext h h':=fun n h' e hn x'=>by
  refine ⟨Sl.nil,by rw [e],?_,Fr.nil _,xx.trans x'⟩
  unfold zR
  rw [if_neg (by rw [e];exact hn)]
  exact Ow.nil _ _
 refine zF (fun hne=>none _ _ (Z2 hne) hne (Ext.refl _)) (fun h0=>?_)
 obtain ⟨hs,hp⟩:=zM h0
 have h5:=hp.1.1
 have hT0:=hp.1.2 0 (by omega)
 rw [zf (n:=(q.len:Int)-1) (by omega) (by omega)]
 refine wO ?_
 refine zr (fun hb=>none _ _ (xK h0 fun t=>?_) (by omega) (Ext.refl _)) (fun hb=>?_)
 ·rw [decide_eq_false_iff_not] at hb
  have:=t.1;omega
 rw [decide_eq_true_eq] at hb
 refine (rr.ext xx).ldG (i:=0) (by omega) (by omega) fun v0 rv0 lv0=>?_
 replace lv0:v0.len=(rw_ plan 0).length:=lv0
 rw [zf (n:=(v0.len:Int)-1) (by omega) (by omega)]
 refine wO ?_
 refine zr (fun hb2=>none _ _ (xK h0 fun t=>?_) (by omega) (Ext.refl _)) (fun hb2=>?_)
 ·rw [decide_eq_false_iff_not] at hb2
  have:=t.2;omega
 rw [decide_eq_true_eq] at hb2
 have hin:Yk plan y x:=⟨by omega,by omega⟩
 refine (o1.ext x2).ldA rfl ?_
 refine (Zd hs hp (r.ext xx) (rr.ext xx) (rb.ext xx)).to ?_
 rintro _ h3 ⟨⟨fo,pw,cn,al,rfl,ob,f,at_,_⟩,x3⟩
 refine (rr.ext xx).ixC (i:=0) (by omega) (by omega) fun p5 v1 hp5 rv1 lv1=>⟨v1,x3.cell hp5,(x3.cellE hp5).symm,?_⟩
 replace lv1:v1.len=(rw_ plan 0).length:=lv1
 rw [lv1,zqQ hp hin]
 refine (Wl hs hp ob f at_ (Zc hp hin)).to ?_
 rintro s h4 ⟨os,so,x4⟩
 have e1:ye c ts plan borders y x=0:=zbZ h0 hin
 refine ⟨s,by rw [e1],?_,fun o e=>?_,(xx.trans x3).trans x4⟩
 ·unfold zR
  rw [if_pos e1];exact os
 ·rw [so] at e;cases e
  have:=(xx.trans x3).len
  omega
theorem Qx (r:Rd h u 4 (tcs ts)) (rr:RdSS h q plan) (rb:RdSS h bq borders) (sz:ts.length≤1048576) (szr:plan.length≤1048576) (hrs:∀l∈plan,l.length≤1048576) (szb:borders.length≤1048576) (hrb:∀l∈borders,l.length≤1048576) {y x:Int} (by_:vL y) (bx:vL x):
  callV SP zIT [.agg (SetC c u),.sl q,.sl bq,i64 y,i64 x] h fun v h'=>∃s,v = .tuple [.sl s,i64 (ye c ts plan borders y x)]∧Ow h' s 1 (ic (zR c ts plan borders y x))∧Fr h.length s∧Ext h h':=by
 have hq:=rr.len
 have hul:=r.tlen
 apply zDb
 unfold zeq
 refine zk fun h1 o1 x1 l1=>?_
 refine o1.ldA rfl ?_
 refine (zhd (r.ext x1) (rr.ext x1) (rb.ext x1) sz szr hrs szb hrb).to ?_
 rintro _ h2 ⟨rfl,x2⟩
 have xx:=x1.trans x2
 have none:∀n h',ye c ts plan borders y x=n→n≠0→Ext h2 h'→∃s,AVal.tuple [.sl Sl.nil,.int .i64 n] = .tuple [.sl s,i64 (ye c ts plan borders y x)]∧Ow h' s 1 (ic (zR c ts plan borders y x))∧Fr h.length s∧Ext h h':=fun n h' e hn x'=>by
  refine ⟨Sl.nil,by rw [e],?_,Fr.nil _,xx.trans x'⟩
  unfold zR
  rw [if_neg (by rw [e];exact hn)]
  exact Ow.nil _ _
 refine zp (fun h0=>?_) (fun hne=>zF (fun _=>none _ _ (Z2 hne) hne (Ext.refl _)) (fun h0=>absurd h0 hne))
 obtain ⟨hs,hp⟩:=zM h0
 have h5:=hp.1.1
 have hT0:=hp.1.2 0 (by omega)
 have ok:=wF hs hp
 rw [zf (n:=(q.len:Int)-1) (by omega) (by omega)]
 refine Yp ?_
 refine zr (fun hb=>zF (fun _=>none _ _ (xK h0 fun t=>?_) (by omega) (Ext.refl _)) (fun h2=>by omega)) (fun hb=>?_)
 ·rw [decide_eq_false_iff_not] at hb
  have:=t.1;omega
 rw [decide_eq_true_eq] at hb
 refine (rr.ext xx).ldG (i:=0) (by omega) (by omega) fun v0 rv0 lv0=>?_
 replace lv0:v0.len=(rw_ plan 0).length:=lv0
 rw [zf (n:=(v0.len:Int)-1) (by omega) (by omega)]
 refine Yp ?_
 refine zr (fun hb2=>zF (fun _=>none _ _ (xK h0 fun t=>?_) (by omega) (Ext.refl _)) (fun h2=>by omega)) (fun hb2=>?_)
 ·rw [decide_eq_false_iff_not] at hb2
  have:=t.2;omega
 rw [decide_eq_true_eq] at hb2
 have hin:Yk plan y x:=⟨by omega,by omega⟩
 have e1:ye c ts plan borders y x=0:=zbZ h0 hin
 refine zF (fun hne=>absurd h0 hne) (fun _=>?_)
 refine qf fun h3 x3 l3=>?_
 have x03:=xx.trans x3
 have o3:=o1.ext (x2.trans x3)
 refine o3.ldA rfl ?_
 refine (zbo hs hp (r.ext x03) (rr.ext x03) (rb.ext x03)).to ?_
 rintro sv h4 ⟨⟨us,rus,hul2,hus⟩,frv,x4⟩
 have x04:=x03.trans x4
 have hx2:=xx.len
 have lx1:=x1.len
 have lx2:=x2.len
 have lx4:=x4.len
 refine (rr.ext xx).ixC (i:=0) (by omega) (by omega) fun p5 v1 hp5 rv1 lv1=>⟨v1,(x3.trans x4).cell hp5,?_⟩
 replace lv1:v1.len=(rw_ plan 0).length:=lv1
 refine ⟨(x4.cellE (x3.cell hp5)).symm,?_⟩
 rw [lv1,zqQ hp hin]
 have hpb:=Zc hp hin
 have esz:(dpOf c ts plan borders).size=plan.length*(rw_ plan 0).length:=rfl
 obtain ⟨m,hm,hst⟩:=hus _ (by rw [esz];exact hpb)
 have hsl:=rus.ilen
 refine rus.ixO (by omega) (by omega) fun p6 po6 hp6=>?_
 rw [Int.toNat_natCast,Nat.mul_one] at hp6
 have hc6:cell h4 p6=some (i64 m):=by
  have e:=zU hp6 (i:=0) (by omega)
  rw [show (⟨p6.o,p6.n,p6.off+0⟩:Pt)=p6 from rfl] at e
  rw [e]
  have h':us[y.toNat*(rw_ plan 0).length+x.toNat]? = some (m:Int):=by
   rw [List.getD_eq_getElem?_getD,List.getElem?_eq_getElem (by omega)] at hm
   rw [List.getElem?_eq_getElem (by omega)];exact congrArg some hm
  rw [List.getElem?_take,if_pos (by omega),List.getElem?_drop,Nat.add_zero]
  exact zIE h'
 refine ⟨_,hc6,?_⟩
 refine wH (by omega) (by rfl) fun s0 h5 os0 ls0 so0 b5 n5=>?_
 have n6:some (h2.length+14)≠p6.o:=fun e=>by
  rw [po6] at e
  have:=frv _ e.symm
  omega
 have hp5o:∀o,p5.o=some o→o<h2.length:=fun o eo=>by
  obtain ⟨pn,po,poff⟩:=p5
  cases eo
  unfold cell at hp5
  obtain ⟨xs,hxs,_⟩:=Option.bind_eq_some_iff.1 hp5
  exact yC hxs
 have n5':some (h2.length+14)≠p5.o:=fun e=>by have:=hp5o _ e.symm;omega
 have o4:=o3.ext x4
 have x25:Ext h2 h5:=(x3.trans x4).but_ b5 (zi (by omega))
 have o5:=o1.ext (x2.trans x25)
 refine ⟨(o4.rangeE rfl).trans (o3.rangeE rfl).symm,b5.cellE hc6 (.inl n6),b5.cellE ((x3.trans x4).cell hp5) (.inl n5'),(o5.rangeE rfl).trans (o3.rangeE rfl).symm,?_⟩
 refine zuo _ _ _ _ (fun s i g=>∃k:Nat,i=k∧k≤ts.length∧Ow g s 1 (ic (Z4 m k))∧s.o=some (h2.length+14)∧Ext h2 g) (fun _ i _=>(ts.length-i).toNat) ?_ _ _
  ⟨0,rfl,by omega,os0,so0,x25⟩
 rintro X s _ g ⟨i,rfl,hi,os,so,xg⟩ hX
 unfold zuq zGN
 refine zh ((o1.ext (x2.trans xg)).ldS rfl rfl ?_)
 have hs16:=hs.2.1
 refine zc (fun hi2=>?_) (fun hi2=>?_)
 ·refine ⟨by rw [zgv i (by omega)];omega,?_⟩
  rw [zNs hst.1 (by omega)]
  have hls:=zAD m i
  rw [zf (by omega) (by omega)]
  refine yy (fun qb=>?_) (fun qb=>?_)
  ·refine zqM os (by unfold lim;omega) fun s' g5 os5 b5 k5=>?_
   rw [so] at b5
   refine hX _ _ _ ⟨i+1,by push_cast;rfl,by omega,?_,k5 _ so,xg.but_ b5 (zi (by omega))⟩ (by omega)
   rw [YN,if_pos qb];exact os5
  ·refine hX _ _ _ ⟨i+1,by push_cast;rfl,by omega,?_,so,xg⟩ (by omega)
   rw [YN,if_neg (by rw [qb];decide),List.append_nil];exact os
 ·have hil:i=ts.length:=by omega
  subst hil
  refine ⟨s,by rw [e1],?_,fun o e=>?_,xx.trans xg⟩
  ·unfold zR
   rw [if_pos e1,show atL (dpOf c ts plan borders) (y.toNat*(rw_ plan 0).length+x.toNat) ts.length=atL (dpOf c ts plan borders) (y.toNat*(rw_ plan 0).length+x.toNat) (dpOf c ts plan borders).n from rfl,←zAC ok (by rw [esz];exact hpb) hst]
   exact os
  ·rw [so] at e;cases e;omega
theorem zaS (sz:ts.length≤1048576) (szr:plan.length≤1048576) (hrs:∀l∈plan,l.length≤1048576) (szb:borders.length≤1048576) (hrb:∀l∈borders,l.length≤1048576) {y x:Int} (by_:vL y) (bx:vL x):(zR c ts plan borders y x).length<1000000:=by
 unfold zR
 split
 ·next h=>
  have:=zAH (dpOf c ts plan borders) (y.toNat*(rw_ plan 0).length+x.toNat) ts.length
  have:=(zM h).1.2.1
  omega
 ·simp
end
end Go.Proofs.YtlcgclmobfdbcaaGreat.Cl
set_option linter.unusedVariables false
set_option linter.unusedSimpArgs false
namespace Go.Proofs.YtlcgclmobfdbcaaGreat.Cl
open Go
theorem zHV {h:H} {s:Sl} {z:Nat} {cs:List AVal} (r:Rd h s z cs) (hs:0<s.len) {lo hi:Int} (h0:0≤lo) (h1:lo≤hi) (h2:hi≤s.len) {K:Sl→Prop} (hk:∀s',Rd h s' z ((cs.drop (lo.toNat*z)).take ((hi-lo).toNat*z))→s'.o=s.o→s'.len=(hi-lo).toNat→K s'):cut s z lo hi h K:=by
 obtain a | ⟨a,b,e⟩:=r.at_
 ·omega
 ·obtain ⟨o,xs,ho,hc,hl,rfl⟩:=zL e
  have hn:xs.length=s.n:=by
   unfold cells at hc
   split at hc
   ·split at hc
    ·next q=>rw [←Option.some.inj hc];exact q
    ·cases hc
   ·split at hc
    ·next q=>rw [←Option.some.inj hc];exact q
    ·cases hc
   ·cases hc
  have hm:hi.toNat*z≤s.len*z:=Nat.mul_le_mul_right _ (by omega)
  refine ⟨⟨h0,h1⟩,?_,(fun q=>by rw [ho] at q;cases q),fun _=>⟨a,by omega⟩,hk _ ⟨?_,?_⟩ rfl rfl⟩
  ·unfold okS
   rw [ho]
   simp only
   rw [hc];rfl
  ·have hlm:(hi-lo).toNat*z+lo.toNat*z=hi.toNat*z:=by rw [←Nat.add_mul];congr 1;omega
   show _=(hi-lo).toNat*z
   simp only [List.length_take,List.length_drop]
   omega
  ·by_cases q:(hi-lo).toNat=0
   ·exact .inl q
   ·refine .inr ⟨rfl,b,?_⟩
    have hlm:(hi-lo).toNat*z+lo.toNat*z=hi.toNat*z:=by rw [←Nat.add_mul];congr 1;omega
    have hh:lo.toNat*z+(hi-lo).toNat*z≤s.len*z:=by omega
    exact vE e hh
theorem zLR {h0:H} {x:Sl} {l:List Int} (r:Rd h0 x 1 (ic l)) (hl:l.length≤1048576):callS SP zhl [.sl x] h0 fun s h'=>Ow h' s 1 (ic l)∧Fr h0.length s∧Ext h0 h':=by
 have hx:=r.ilen
 apply zio
 unfold Z1
 refine zj (by rfl) fun s h1 os ls so e1=>?_
 have x1:Ext h0 h1:=by rw [e1];exact Ext.app _ _
 refine yk (cs:=[]) (by omega) os (r.ext x1) (by unfold lim;omega) fun s' h' o' ln b k1 k2=>⟨_,rfl,by simpa using o',fun o e=>?_,x1.but_ b fun o e=>by rw [so] at e;cases e;exact Nat.le_refl _⟩
 have:=k1 _ so
 rw [this] at e;cases e;exact Nat.le_refl _
theorem NewSS.pushZ {n:Nat} {h h':H} {s:Sl} {ls:List (List Int)} (r0:NewSS n h s ls) (x:Ext h h') {v:Sl} {l:List Int} (ov:Ow h' v 1 (ic l)) (fv:Fr h.length v) (hn:n≤h.length) (hl:(ls.length:Int)+1≤lim) {K:Sl→H→Prop}
  (hk:∀s' g,NewSS n g s' (ls++[l])→But s.o h' g→(∀o,s.o=some o→s'.o=some o)→K s' g):newS 1 1 [.sl v] h' fun t h1=>Cl.app s t 1 h1 K:=by
 refine zj (by rfl) fun t h1 ot tl to e1=>?_
 have e1':Ext h' h1:=by rw [e1];exact Ext.app _ _
 refine ((r0.ext x).ext e1').app_new (ov.ext e1') fv hn ⟨h,r0,Nat.le_refl _,x.trans e1'⟩ ot.rd hl (Nat.le_trans hn (Nat.le_trans x.len e1'.len)) fun s' g n' b k1 _=>hk s' g n' ((e1'.but _).trans b) k1
theorem NewSS.frZ {n h s ls} (r:NewSS n h s ls):Fr n s:=by obtain ⟨_,_,_,f,_⟩:=r;exact f
theorem zBk {f:Nat→Int} {Hh w y:Nat} (hy:y<Hh):(((List.range (Hh*w)).map f).drop (y*w)).take w=(List.range w).map fun x=>f (y*w+x):=by
 have:(y+1)*w≤Hh*w:=Nat.mul_le_mul_right _ hy
 rw [Nat.add_mul,Nat.one_mul] at this
 refine List.ext_getElem (by simp;omega) fun i h1 h2=>?_
 simp
def wr (f:Nat→Int) (Hh w:Nat):List (List Int):=(List.range Hh).map fun y=>(List.range w).map fun x=>f (y*w+x)
theorem Za (f:Nat→Int) (y w:Nat):wr f (y+1) w=wr f y w++[(List.range w).map fun x=>f (y*w+x)]:=by
 unfold wr
 rw [List.range_succ,List.map_append];rfl
theorem xM (f:Nat→Int) (y w:Nat):(wr f y w).length=y:=by unfold wr;simp
theorem zBA {h:H} {s:Sl} {f:Nat→Int} {Hh w:Nat} (h5:Hh≤5) (w1:1≤w) (w5:w≤5) (r:Rd h s 1 (ic ((List.range (Hh*w)).map f))):
  callS SP zII [.sl s,i64 w] h fun v h'=>NewSS h.length h' v (wr f Hh w)∧Ext h h':=by
 have hl:s.len=Hh*w:=by have:=r.ilen;simpa using this
 have hm:Hh*w≤5*5:=Nat.mul_le_mul h5 w5
 apply zCn
 unfold zcV
 refine zj (by rfl) fun s0 h1 os ls so e1=>?_
 have x1:Ext h h1:=by rw [e1];exact Ext.app _ _
 refine zsl _ _ _ _ (fun v i g=>∃y:Nat,i=((y*w:Nat):Int)∧y≤Hh∧NewSS h.length g v (wr f y w)∧Ext h g) (fun _ i _=>(Hh*w-i).toNat) ?_ _ _
  ⟨0,by simp,by omega,NewSS.mk0 os (fun o e=>by rw [so] at e;cases e;exact Nat.le_refl _),x1⟩
 rintro X v _ g ⟨y,rfl,hy,nv,xg⟩ hX
 unfold zsn zFa
 refine zc (fun hi=>?_) (fun hi=>?_)
 ·have hyl:y<Hh:=by
   rcases Nat.lt_or_ge y Hh with h' | h'
   ·exact h'
   ·have:=Nat.mul_le_mul_right w h'
    omega
  have hyw:(y+1)*w≤Hh*w:=Nat.mul_le_mul_right _ hyl
  have e2:(y+1)*w=y*w+w:=by rw [Nat.add_mul,Nat.one_mul]
  have e3:w64 (((y*w:Nat):Int)+(w:Int))=(((y+1)*w:Nat):Int):=by rw [zf (by omega) (by omega)];omega
  rw [e3]
  refine zHV (r.ext xg) (by omega) (by omega) (by omega) (by omega) fun s' rs os' ls'=>?_
  have e4:(((ic ((List.range (Hh*w)).map f)).drop (((y*w:Nat):Int).toNat*1)).take (((((y+1)*w:Nat):Int)-((y*w:Nat):Int)).toNat*1))=ic ((List.range w).map fun x=>f (y*w+x)):=by
   rw [show (((((y+1)*w:Nat):Int)-((y*w:Nat):Int)).toNat*1)=w by omega,show (((y*w:Nat):Int).toNat*1)=y*w by omega,←zBk hyl]
   unfold ic
   rw [←List.map_drop,←List.map_take]
  rw [e4] at rs
  refine (zLR rs (by simp;omega)).to ?_
  rintro s2 g2 ⟨o2,f2,x2⟩
  refine nv.pushZ x2 o2 f2 xg.len (by rw [xM];unfold lim;omega) fun s3 g3 n3 b3 k3=>?_
  refine hX _ _ _ ⟨y+1,rfl,hyl,by rw [Za];exact n3,(xg.trans x2).but_ b3 fun o e=>nv.frZ o e⟩ (by omega)
 ·have hyl:y=Hh:=by
   rcases Nat.lt_or_ge y Hh with h' | h'
   ·have:=Nat.mul_le_mul_right w (show y+1≤Hh from h')
    rw [Nat.add_mul,Nat.one_mul] at this
    omega
   ·omega
  subst hyl
  exact ⟨_,rfl,nv,xg⟩
noncomputable def sameAt (D:Dp) (p:Nat):Int:=if (atL D p D.n).length=1 then (atL D p D.n).getD 0 0 else -1
theorem Qw (i:Nat):∀k,Z4 (2^i) k=if i<k then [(i:Int)] else []
 | 0=>rfl
 | k+1=>by
  rw [YN,Qw i k,Nat.testBit_two_pow]
  by_cases h:i<k
  ·rw [if_pos h,if_neg (by simp;omega),if_pos (by omega)];rfl
  ·rw [if_neg h]
   by_cases h2:i=k
   ·subst h2;simp
   ·rw [if_neg (by simp;omega),if_neg (by omega)];rfl
theorem mem_bitsL {m k:Nat} {a:Int}:a∈Z4 m k↔∃i:Nat,a=i∧i<k∧m.testBit i=true:=by
 unfold Z4
 simp only [List.mem_map,List.mem_filter,List.mem_range]
 exact ⟨fun ⟨i,⟨a,b⟩,c⟩=>⟨i,c.symm,a,b⟩,fun ⟨i,c,a,b⟩=>⟨i,⟨a,b⟩,c.symm⟩⟩
theorem zEy {m n:Nat} (hm:∀j,m.testBit j=true→j<n):(Z4 m n).length=1↔∃i,i<n∧m=2^i:=by
 constructor
 ·intro h
  obtain ⟨a,ha⟩:=List.length_eq_one_iff.1 h
  have h1:a∈Z4 m n:=by rw [ha];simp
  obtain ⟨i,rfl,hi,hb⟩:=mem_bitsL.1 h1
  refine ⟨i,hi,Nat.eq_of_testBit_eq fun j=>?_⟩
  rw [Nat.testBit_two_pow]
  by_cases hj:m.testBit j=true
  ·have h2:(j:Int)∈Z4 m n:=mem_bitsL.2 ⟨j,rfl,hm j hj,hj⟩
   rw [ha] at h2
   have:(j:Int)=i:=by simpa using h2
   have:j=i:=by omega
   subst this
   rw [hb];simp
  ·have hne:i≠j:=fun e=>by subst e;exact hj hb
   simp only [Bool.not_eq_true] at hj
   rw [hj];simp [hne]
 ·rintro ⟨i,hi,rfl⟩
  rw [Qw,if_pos hi];rfl
def OwnI (m k:Nat) (own:Int):Prop:=(own = -1∧∀i,i<k→m≠2^i)∨∃i:Nat,i<k∧m=2^i∧own=i
theorem zIq {D:Dp} (ok:D.OK) {p m:Nat} (hp:p<D.size) (hs:zcf D p m) {own:Int} (h:OwnI m D.n own):own=sameAt D p:=by
 have hone:=zEy (m:=m) (n:=D.n) fun j hj=>((hs.2 j).1 hj).1
 unfold sameAt
 rw [←zAC ok hp hs]
 rcases h with ⟨rfl,hn⟩ | ⟨i,hi,rfl,rfl⟩
 ·rw [if_neg]
  intro e
  obtain ⟨i,hi,e2⟩:=hone.1 e
  exact hn i hi e2
 ·rw [if_pos (hone.2 ⟨i,hi,rfl⟩),Qw,if_pos hi];rfl
open Classical in
noncomputable def zn (c:Int) (ts:List Tile) (plan borders:List (List Int)):Int:=
 if zX c ts plan borders=0 then (if (dpOf c ts plan borders).left 0 0 then 0 else 4) else zX c ts plan borders
open Classical in
noncomputable def zt (c:Int) (ts:List Tile) (plan borders:List (List Int)):List (List Int):=
 if zn c ts plan borders=0 then wr (sameAt (dpOf c ts plan borders)) plan.length (rw_ plan 0).length else []
section
variable {c:Int} {ts:List Tile} {plan borders:List (List Int)} {u q bq:Sl} {h:H}
set_option maxHeartbeats 1000000 in
theorem Ys (r:Rd h u 4 (tcs ts)) (rr:RdSS h q plan) (rb:RdSS h bq borders) (sz:ts.length≤1048576) (szr:plan.length≤1048576) (hrs:∀l∈plan,l.length≤1048576) (szb:borders.length≤1048576) (hrb:∀l∈borders,l.length≤1048576):
  callV SP zIW [.agg (SetC c u),.sl q,.sl bq] h fun v h'=>∃s,v = .tuple [.sl s,i64 (zn c ts plan borders)]∧NewSS h.length h' s (zt c ts plan borders)∧Ext h h':=by
 have hq:=rr.len
 apply zDP
 unfold zfP
 refine zk fun h1 o1 x1 l1=>?_
 refine o1.ldA rfl ?_
 refine (qq (r.ext x1) (rr.ext x1) (rb.ext x1) sz szr hrs szb).to ?_
 rintro _ h2 ⟨rfl,x2⟩
 have xx:=x1.trans x2
 have none:∀n h',zn c ts plan borders=n→n≠0→Ext h2 h'→∃s,AVal.tuple [.sl Sl.nil,.int .i64 n] = .tuple [.sl s,i64 (zn c ts plan borders)]∧NewSS h.length h' s (zt c ts plan borders)∧Ext h h':=fun n h' e hn x'=>by
  refine ⟨Sl.nil,by rw [e],?_,xx.trans x'⟩
  unfold zt
  rw [if_neg (by rw [e];exact hn)]
  exact NewSS.nil _ _
 refine zF (fun hne=>none _ _ (by unfold zn;rw [if_neg hne]) hne (Ext.refl _)) (fun h0=>?_)
 obtain ⟨hs,hp⟩:=zM h0
 have ok:=wF hs hp
 have h5:=hp.1.1
 have hT0:=hp.1.2 0 (by omega)
 refine (o1.ext x2).ldA rfl ?_
 refine (Zd hs hp (r.ext xx) (rr.ext xx) (rb.ext xx)).to ?_
 rintro _ h3 ⟨⟨fo,pw,cn,al,rfl,ob,f,at_,_⟩,x3⟩
 refine zj (by rfl) fun s8 h9 os8 ls8 so8 e9=>?_
 have x9:Ext h3 h9:=by rw [e9];exact Ext.app _ _
 have x39:=xx.trans (x3.trans x9)
 refine ⟨rfl,rfl,(ob.ext x9).ldS (i:=6) rfl rfl ?_⟩
 obtain ⟨vs,hvl,rvs,hrow⟩:=id at_
 have ok0:=ok.hc
 have esz:(dpOf c ts plan borders).size=plan.length*(rw_ plan 0).length:=rfl
 refine (rvs.ext x9).ldS (i:=0) (by omega) (by omega) fun w0 hw0=>?_
 obtain ⟨bl,rb1,yb⟩:=hrow 0 w0 hw0
 have hlim0:0<(dpOf c ts plan borders).lim:=Nat.pow_pos ok.hc
 refine Rd.ldB (rb1.ext x9) (by omega) (by rw [yb.1];exact_mod_cast hlim0) fun b hb=>?_
 have hba:b=true↔(dpOf c ts plan borders).left 0 0:=by
  have:=yb.2 0 hlim0
  rw [List.getD_eq_getElem?_getD,show bl[0]? = some b from hb] at this
  exact this.trans (Dp.alive_zero ok)
 refine zr (fun qb=>none _ _ (by
  unfold zn
  rw [if_pos h0,if_neg (fun t=>by rw [hba.2 t] at qb;cases qb)]) (by omega) (x3.trans x9)) (fun qb=>?_)
 have e1:zn c ts plan borders=0:=by
  unfold zn
  rw [if_pos h0,if_pos (hba.1 qb)]
 have Dn':(dpOf c ts plan borders).n=ts.length:=rfl
 rw [hq]
 refine zvT _ _ _ _ _ (fun s i g=>∃y:Nat,i=y∧y≤plan.length∧NewSS h3.length g s (wr (sameAt (dpOf c ts plan borders)) y (rw_ plan 0).length)∧Ext h3 g) (fun _ i _=>(plan.length-i).toNat) ?_ _ _
  ⟨0,rfl,by omega,NewSS.mk0 os8 (fun o e=>by rw [so8] at e;cases e;exact Nat.le_refl _),x9⟩
 rintro X s10 _ g ⟨y,rfl,hy,n10,xg⟩ hX
 unfold zvX zHk
 refine zc (fun hi=>?_) (fun hi=>?_)
 ·refine (rr.ext (xx.trans (x3.trans xg))).ldG (by omega) (by omega) fun v rv lv=>?_
  rw [Int.toNat_natCast,(hp.1.2 y (by omega)).1] at lv
  clear rv
  rw [lv]
  refine zj (by rfl) fun s13 g1 os13 ls13 so13 eg1=>?_
  have xg1:Ext g g1:=by rw [eg1];exact Ext.app _ _
  refine zvS _ _ X _ _ _ _ _ _ _ _ (fun s i g'=>∃x:Nat,i=x∧x≤(rw_ plan 0).length∧Ow g' s 1 (ic ((List.range x).map fun x=>sameAt (dpOf c ts plan borders) (y*(rw_ plan 0).length+x)))∧s.o=some g.length∧Ext g g') (fun _ i _=>((rw_ plan 0).length-i).toNat) ?_ _ _
   ⟨0,rfl,by omega,os13,so13,xg1⟩
  rintro Y s _ g2 ⟨x,rfl,hx,os,so,x2'⟩ hY
  unfold zvW zHi zHj
  have hm:plan.length*(rw_ plan 0).length≤5*5:=Nat.mul_le_mul (by omega) (by omega)
  have hyy:(y+1)*(rw_ plan 0).length≤plan.length*(rw_ plan 0).length:=Nat.mul_le_mul_right _ (by omega)
  rw [Nat.add_mul,Nat.one_mul] at hyy
  refine zc (fun hi2=>?_) (fun hi2=>?_)
  ·rw [lv,show (y:Int)*((rw_ plan 0).length:Int)=((y*(rw_ plan 0).length:Nat):Int) by push_cast;rfl,zf (n:=((y*(rw_ plan 0).length:Nat):Int)) (by omega) (by omega),zf (n:=((y*(rw_ plan 0).length:Nat):Int)+(x:Int)) (by omega) (by omega),show ((y*(rw_ plan 0).length:Nat):Int)+(x:Int)=((y*(rw_ plan 0).length+x:Nat):Int) by push_cast;rfl]
   have x3g2:=xg.trans x2'
   have hat:AlvT (dpOf c ts plan borders) g2 al:=⟨vs,hvl,rvs.ext x3g2,fun j w hw=>by obtain ⟨l,a,b⟩:=hrow j w hw;exact ⟨l,a.ext x3g2,b⟩⟩
   refine (Wl hs hp (ob.ext x3g2) (f.ext x3g2) hat (p:=y*(rw_ plan 0).length+x) (by omega)).to ?_
   rintro sa g3 ⟨oa,soa,x3'⟩
   have hal:=oa.rd.ilen
   have nxt:∀z:Int,z=sameAt (dpOf c ts plan borders) (y*(rw_ plan 0).length+x)→newS 1 1 [.int .i64 z] g3 fun t h1=>app s t 1 h1 fun s' h'=>Y (Wr ⟨some fo,7,0⟩ s10 y v s' q plan.length y (rw_ plan 0).length (w64 ((x:Int)+1))) h':=fun z ez=>by
    refine zqM (os.ext x3') (by simp;unfold lim;omega) fun s' g5 os5 b5 k5=>?_
    rw [so] at b5
    rw [zf (n:=(x:Int)+1) (by omega) (by omega)]
    refine hY _ _ _ ⟨x+1,by push_cast;rfl,by omega,?_,k5 _ so,(x2'.trans x3').but_ b5 (zi (Nat.le_refl _))⟩ (by omega)
    rw [List.range_succ,List.map_append]
    rw [ez] at os5
    exact os5
   refine zp (fun e=>?_) (fun e=>?_)
   ·have e':(atL (dpOf c ts plan borders) (y*(rw_ plan 0).length+x) ts.length).length=1:=by omega
    refine oa.rd.ldG (i:=0) (by omega) (by omega) ?_
    refine nxt _ ?_
    unfold sameAt
    rw [Dn',if_pos e'];rfl
   ·have e':(atL (dpOf c ts plan borders) (y*(rw_ plan 0).length+x) ts.length).length≠1:=by omega
    refine nxt _ ?_
    unfold sameAt
    rw [Dn',if_neg e']
  ·have hxl:x=(rw_ plan 0).length:=by omega
   refine n10.pushZ x2' os (fun o e=>by rw [so] at e;cases e;exact Nat.le_refl _) xg.len (by rw [xM];unfold lim;omega) fun s3 g3 n3 b3 k3=>?_
   rw [zf (n:=(y:Int)+1) (by omega) (by omega)]
   refine hX _ _ _ ⟨y+1,by push_cast;rfl,by omega,?_,(xg.trans x2').but_ b3 fun o e=>n10.frZ o e⟩ (by omega)
   rw [Za,←hxl]
   rw [←hxl] at n3
   exact n3
 ·have hyl:y=plan.length:=by omega
  subst hyl
  refine ⟨s10,by rw [e1],?_,xx.trans (x3.trans xg)⟩
  unfold zt
  rw [if_pos e1]
  exact n10.le (xx.trans x3).len
theorem Yc (r:Rd h u 4 (tcs ts)) (rr:RdSS h q plan) (rb:RdSS h bq borders) (sz:ts.length≤1048576) (szr:plan.length≤1048576) (hrs:∀l∈plan,l.length≤1048576) (szb:borders.length≤1048576) (hrb:∀l∈borders,l.length≤1048576):
  callV SP zIV [.agg (SetC c u),.sl q,.sl bq] h fun v h'=>∃s,v = .tuple [.sl s,i64 (zn c ts plan borders)]∧NewSS h.length h' s (zt c ts plan borders)∧Ext h h':=by
 have hq:=rr.len
 have hul:=r.tlen
 apply zDN
 unfold zfN
 refine zk fun h1 o1 x1 l1=>?_
 refine o1.ldA rfl ?_
 refine (zhd (r.ext x1) (rr.ext x1) (rb.ext x1) sz szr hrs szb hrb).to ?_
 rintro _ h2 ⟨rfl,x2⟩
 have xx:=x1.trans x2
 have none:∀n h',zn c ts plan borders=n→n≠0→Ext h2 h'→∃s,AVal.tuple [.sl Sl.nil,.int .i64 n] = .tuple [.sl s,i64 (zn c ts plan borders)]∧NewSS h.length h' s (zt c ts plan borders)∧Ext h h':=fun n h' e hn x'=>by
  refine ⟨Sl.nil,by rw [e],?_,xx.trans x'⟩
  unfold zt
  rw [if_neg (by rw [e];exact hn)]
  exact NewSS.nil _ _
 refine zF (fun hne=>none _ _ (by unfold zn;rw [if_neg hne]) hne (Ext.refl _)) (fun h0=>?_)
 obtain ⟨hs,hp⟩:=zM h0
 have ok:=wF hs hp
 have h5:=hp.1.1
 have hT0:=hp.1.2 0 (by omega)
 have hs16:=hs.2.1
 refine (o1.ext x2).ldA rfl ?_
 refine (zbo hs hp (r.ext xx) (rr.ext xx) (rb.ext xx)).to ?_
 rintro sv h4 ⟨⟨us,rus,hul2,hus⟩,frv,x4⟩
 have x04:=xx.trans x4
 refine zj (by rfl) fun s8 h9 os8 ls8 so8 e9=>?_
 have x9:Ext h4 h9:=by rw [e9];exact Ext.app _ _
 have esz:(dpOf c ts plan borders).size=plan.length*(rw_ plan 0).length:=rfl
 have hm:plan.length*(rw_ plan 0).length≤5*5:=Nat.mul_le_mul (by omega) (by omega)
 have hpos:0<plan.length*(rw_ plan 0).length:=Nat.mul_pos (by omega) (by omega)
 have hsl:=rus.ilen
 have Dn':(dpOf c ts plan borders).n=ts.length:=rfl
 -- all places are seen only if there is a filling
 have hzero:∀p m,p<(dpOf c ts plan borders).size→zcf (dpOf c ts plan borders) p m→(m=0↔∀i,i<(dpOf c ts plan borders).n→¬(dpOf c ts plan borders).stand p i):=fun p m hp2 hst=>by
  constructor
  ·rintro rfl i hi hs2
   have:=(hst.2 i).2 ⟨hi,hs2⟩
   simp at this
  ·intro hn
   refine Nat.eq_of_testBit_eq fun j=>?_
   rw [Nat.zero_testBit]
   cases e:m.testBit j
   ·rfl
   ·obtain ⟨a,b⟩:=(hst.2 j).1 e
    exact absurd b (hn j a)
 refine zvN _ _ _ _ _ (fun s i g=>∃p:Nat,i=p∧p≤(dpOf c ts plan borders).size∧(0<p→(dpOf c ts plan borders).left 0 0)∧Ow g s 1 (ic ((List.range p).map (sameAt (dpOf c ts plan borders))))∧s.o=some h4.length∧Ext h4 g) (fun _ i _=>((dpOf c ts plan borders).size-i).toNat) ?_ _ _
  ⟨0,rfl,by omega,fun h=>by omega,os8,so8,x9⟩
 rintro X s10 _ g ⟨p,rfl,hpp,hleft,os,so,xg⟩ hX
 unfold zvR zHd
 refine zc (fun hi=>?_) (fun hi=>?_)
 ·have hps:p<(dpOf c ts plan borders).size:=by omega
  obtain ⟨m,hm1,hst⟩:=hus p hps
  have hz:=hzero p m hps hst
  refine (rus.ext xg).ldG (by omega) (by omega) ?_
  rw [Int.toNat_natCast,hm1]
  refine zp (fun e0=>none _ _ ?_ (by omega) (x4.trans xg)) (fun e0=>?_)
  ·have hm0:m=0:=by omega
   unfold zn
   rw [if_pos h0,if_neg]
   intro hl
   obtain ⟨i,hi,hs2⟩:=Dp.stand_some hl p hps
   exact hz.1 hm0 i hi hs2
  have hm0:m≠0:=by omega
  have hl:(dpOf c ts plan borders).left 0 0:=by
   rcases Nat.eq_zero_or_pos p with hp0 | hp0
   ·subst hp0
    apply Classical.byContradiction
    intro hn
    exact hm0 (hz.2 fun i hi=>Dp.stand_none (by omega) hn i hi)
   ·exact hleft hp0
  refine zvM _ _ X _ _ _ _ _ (fun own i g'=>∃k:Nat,i=k∧k≤ts.length∧OwnI m k own∧g'=g) (fun _ i _=>(ts.length-i).toNat) ?_ _ _
   ⟨0,rfl,by omega,.inl ⟨rfl,fun i hi=>by omega⟩,rfl⟩
  rintro Y own _ g' ⟨k,rfl,hk,hown,eg⟩ hY
  rw [eg]
  unfold zvQ zHb zHc
  refine zh ((o1.ext ((x2.trans x4).trans xg)).ldS rfl rfl ?_)
  refine zc (fun hi3=>?_) (fun hi3=>?_)
  ·refine (rus.ext xg).ldG (by omega) (by omega) ?_
   rw [Int.toNat_natCast,hm1,zgv k (by omega),zLG k (by omega),zf (n:=(k:Int)+1) (by omega) (by omega)]
   refine ⟨by omega,?_⟩
   refine zp (fun e=>hY _ _ _ ⟨k+1,by push_cast;rfl,by omega,.inr ⟨k,by omega,by exact_mod_cast e,rfl⟩,rfl⟩ (by omega)) (fun e=>hY _ _ _ ⟨k+1,by push_cast;rfl,by omega,?_,rfl⟩ (by omega))
   have e':m≠2^k:=fun e2=>e (by rw [e2])
   rcases hown with ⟨a,b⟩ | ⟨i,a,b,d⟩
   ·refine .inl ⟨a,fun i hi4=>?_⟩
    by_cases e5:i=k
    ·rw [e5];exact e'
    ·exact b i (by omega)
   ·exact .inr ⟨i,by omega,b,d⟩
  ·have hkl:k=ts.length:=by omega
   subst hkl
   have hown':=zIq ok hps hst (by rw [Dn'];exact hown)
   refine zqM os (by simp;unfold lim;omega) fun s' g5 os5 b5 k5=>?_
   rw [so] at b5
   rw [zf (n:=(p:Int)+1) (by omega) (by omega)]
   refine hX _ _ _ ⟨p+1,by push_cast;rfl,by omega,fun _=>hl,?_,k5 _ so,xg.but_ b5 (zi (Nat.le_refl _))⟩ (by omega)
   rw [List.range_succ,List.map_append]
   rw [hown'] at os5
   exact os5
 ·have hpl:p=plan.length*(rw_ plan 0).length:=by omega
  subst hpl
  have e1:zn c ts plan borders=0:=by
   unfold zn
   rw [if_pos h0,if_pos (hleft hpos)]
  refine (rr.ext (x04.trans xg)).ldG (i:=0) (by omega) (by omega) fun v0 rv0 lv0=>?_
  replace lv0:v0.len=(rw_ plan 0).length:=lv0
  rw [lv0]
  refine (zBA (by omega) (by omega) (by omega) os.rd).to ?_
  rintro s5 g5 ⟨n5,x5⟩
  refine ⟨s5,by rw [e1],?_,(x04.trans xg).trans x5⟩
  unfold zt
  rw [if_pos e1]
  exact n5.le (x04.trans xg).len
theorem YP (sz:ts.length≤1048576) (szr:plan.length≤1048576) (hrs:∀l∈plan,l.length≤1048576) (szb:borders.length≤1048576) (hrb:∀l∈borders,l.length≤1048576):(zt c ts plan borders).length<1000000∧XB (zt c ts plan borders)<1000000:=by
 unfold zt
 split
 ·next h=>
  have h0:zX c ts plan borders=0:=by
   unfold zn at h
   split at h
   ·assumption
   ·exact h
  obtain ⟨hs,hp⟩:=zM h0
  have h5:=hp.1.1
  have hT0:=hp.1.2 0 (by omega)
  have hsum:∀n,XB (wr (sameAt (dpOf c ts plan borders)) n (rw_ plan 0).length)=n*(rw_ plan 0).length:=by
   intro n
   induction n with
   | zero=>simp [wr,XB]
   | succ n ih=>
    rw [Za]
    unfold XB at ih ⊢
    rw [List.map_append,List.sum_append,ih,Nat.add_mul]
    simp
  have hm:plan.length*(rw_ plan 0).length≤5*5:=Nat.mul_le_mul (by omega) (by omega)
  rw [xM,hsum]
  omega
 ·simp [XB]
end
end Go.Proofs.YtlcgclmobfdbcaaGreat.Cl
set_option linter.unusedVariables false
set_option linter.unusedSimpArgs false
namespace Go.Proofs.YtlcgclmobfdbcaaGreat.Cl
open Go
def Y1:Go.Obj→Prop | .cells .. =>False | .map .. =>False | _=>True
theorem zjd {w:World} {rb:Nat} {x y:Go.Obj} (h:w.heap[rb]? = some x) (hx:Y1 x) (hy:Y1 y) (a:Addr):(w.putObj rb y).cell? a=w.cell? a:=by
 have hl:rb<w.heap.size:=(Array.getElem?_eq_some_iff.1 h).1
 unfold World.cell?
 by_cases e:a.block=rb
 ·rw [e,World.putObj_heap_same hl,h]
  cases x <;> cases y <;> first | rfl | exact hx.elim | exact hy.elim
 ·rw [World.putObj_heap_other e]
theorem zqP {w:World} {rb:Nat} {x y:Go.Obj} (h:w.heap[rb]? = some x) (hx:Y1 x) (hy:Y1 y) (a:Addr):(w.putObj rb y).frozen? a=w.frozen? a:=by
 have hl:rb<w.heap.size:=(Array.getElem?_eq_some_iff.1 h).1
 unfold World.frozen?
 by_cases e:a.block=rb
 ·rw [e,World.putObj_heap_same hl,h]
  cases x <;> cases y <;> first | rfl | exact hx.elim | exact hy.elim
 ·rw [World.putObj_heap_other e]
theorem zjc (w:World) (rb:Nat) (y:Go.Obj):(w.putObj rb y).heap.size=w.heap.size:=by simp [World.putObj]
theorem Rel.turn {μ h w} (r:Rel μ h w) {rb:Nat} {x y:Go.Obj} (hr:w.heap[rb]? = some x) (hx:Y1 x) (hy:Y1 y):Rel μ h (w.putObj rb y):=by
 refine ⟨fun o cs ho=>?_,fun o cs ho i v hv=>?_,fun o es ho=>?_,r.sep⟩
 ·obtain ⟨h1,h2,h3,h4⟩:=r.own o cs ho
  refine ⟨by rw [zjc];exact h1,h2,fun i hi=>?_,fun i v hv=>?_⟩
  ·rw [zjd hr hx hy,zqP hr hx hy];exact h3 i hi
  ·obtain ⟨q,d,h5,h6⟩:=h4 i v hv
   exact ⟨q,d,by rw [zjd hr hx hy];exact h5,h6⟩
 ·obtain ⟨q,d,h5,h6⟩:=r.ro o cs ho i v hv
  exact ⟨q,d,by rw [zjd hr hx hy];exact h5,h6⟩
 ·obtain ⟨h1,ms,ck,h2,h3,h4⟩:=r.mp o es ho
  refine ⟨by rw [zjc];exact h1,ms,ck,?_,h3,h4⟩
  rw [World.putObj_heap_other]
  ·exact h2
  ·intro e
   rw [e,hr] at h2
   cases h2
   exact hx
theorem Tr.turn {μ h w μ1 h1 w1} (t:Tr μ h w μ1 h1 w1) {rb:Nat} {x y:Go.Obj} (hr:w1.heap[rb]? = some x) (hx:Y1 x) (hy:Y1 y) (hb:w.heap.size≤rb):Tr μ h w μ1 h1 (w1.putObj rb y):=by
 refine ⟨t.rel.turn hr hx hy,t.step,⟨t.keep.os,t.keep.tape,t.keep.output,by rw [zjc];exact t.keep.size,fun k hk hn=>?_,t.keep.drawn⟩,t.mine,t.has⟩
 rw [World.putObj_heap_other (by omega)];exact t.keep.block k hk hn
theorem Tr.apart {μ h w μ1 h1 w1 rb x} (t:Tr μ h w μ1 h1 w1) (hr:w.heap[rb]? = some x) (hm:¬Mine μ h rb):w1.heap[rb]? = some x∧¬Mine μ1 h1 rb:=by
 have hl:rb<w.heap.size:=(Array.getElem?_eq_some_iff.1 hr).1
 refine ⟨by rw [t.keep.block rb hl hm];exact hr,fun hc=>?_⟩
 rcases t.mine rb hc with h | h
 ·exact hm h
 ·omega
section
variable {P:Program} {T:Tab} {S:SatT}
structure zqe (F:Fence) (n:Nat) (P:Program):Prop where
 all:∀f,F.fn f
 deep:F.depth=none
 call:∀f args w R,Calls P f args w R→CallsIn F (n-1) P f args w R
theorem yD (n:Nat) (P:Program):zqe Fence.wide n P:=⟨fun _=>trivial,rfl,fun _ _ _ _ h=>callsIn_wide.2 h⟩
theorem zaV (n l:Nat) (P:Program):zqe (Fence.wide.inRound l) n P:=⟨fun _=>trivial,rfl,fun _ _ _ _ h=>CallsIn.inRound l (callsIn_wide.2 h)⟩
theorem OpOK.inn {F:Fence} {n:Nat} (W:zqe F n P) {o:Oper} {a:Act} {w:World} {R:Value→World→Prop} {next:Act→World→Prop} {Q:Exit→Act→World→Prop} (h:OpOK P (execOp a.eval o) w R) (hd:∀c,o.op ≠ .defer c)
  (hn:∀v w',R v w'→next (a.put o.dst v) w'):o.wpIn F n P a w next Q:=by
 refine ⟨fun f _=>W.all f,?_⟩
 rw [Oper.semAt_eq _ _ _ hd]
 unfold OpOK at h
 split at h
 ·next v w' e=>rw [e];exact hn _ _ h
 ·next w' e=>rw [e];exact hn _ _ h
 ·next f args w' e=>
  rw [e]
  refine ⟨fun hh=>(by rw [W.deep] at hh;cases hh),W.call _ _ _ _ (Calls.mono h fun e w'' ⟨v,he,hr⟩=>?_)⟩
  rw [he]
  exact hn _ _ hr
 ·exact h.elim
theorem XQ {o:Oper} {fr:Frame} {h:H} {K:AVal→H→Prop} (H:opK S T o fr h K):∀c,o.op ≠ .defer c:=by
 intro c e
 unfold opK at H
 rw [e] at H
 exact H
theorem XE (hS:∀f args h v h2,S f args h v h2→Sat P f args h v h2) (hT:TOK P T) {ops:Array Oper} {k:Frame→H→Prop} {Q:Exit→Act→World→Prop} {F:Fence} {n:Nat} (W:zqe F n P):
  ∀(l:List Oper) (i:Nat),ops.toList.drop i=l→∀{μ :Mu} {h:H} {w:World} {fr:Frame} {a:Act},Rel μ h w→VRs μ h fr a.tmps.toList→zy S T ops.toList l k fr h→
   (∀ μ' h' w' fr' a',Tr μ h w μ' h' w'→VRs μ' h' fr' a'.tmps.toList→a'.defers=a.defers→(∀d,(∀o∈l,o.dst≠some d)→a'.tmps[d]? = a.tmps[d]?)→k fr' h'→Q .normal a' w')→wpOpsIn F n P ops Q (List.range' i l.length) a w
 | [],i,_,μ,h,w,fr,a,r,hf,hR,hQ=>hQ μ h w fr a (Tr.refl r) hf rfl (fun _ _=>rfl) hR
 | o::l,i,hl,μ,h,w,fr,a,r,hf,hR,hQ=>by
  have ho:ops[i]? = some o:=by
   rw [←Array.getElem?_toList]
   have:=congrArg (·[0]?) hl
   simpa using this
  have hl':ops.toList.drop (i+1)=l:=by
   rw [←List.drop_drop,hl];rfl
  rw [List.length_cons,List.range'_succ]
  simp only [wpOpsIn,ho]
  have stepOK:∀{K:AVal→H→Prop},opK S T o fr h K→(∀v h',K v h'→zy S T ops.toList l k (put fr o.dst v) h')→
    o.wpIn F n P a w (wpOpsIn F n P ops Q (List.range' (i+1) l.length)) Q:=by
   intro K hK hn
   refine (wu hS hT r hf hK).inn W (XQ hK) fun x w' ⟨v,h',μ',h1,h2,h3⟩=>?_
   refine XE hS hT W l (i+1) hl' h2.rel (yY (VRs.step h2.step hf) h3) (hn v h' h1) fun μ2 h2' w2 fr2 a2 t2 f2 d2 g2 k2=>?_
   exact hQ μ2 h2' w2 fr2 a2 (h2.trans t2) f2 (by rw [d2,zP]) (fun d hd=>(g2 d fun o' ho'=>hd o' (List.mem_cons_of_mem _ ho')).trans (zS (hd o (List.mem_cons_self ..)))) k2
  have skipOK:zy S T ops.toList l k (put fr o.dst .gone) h→wpOpsIn F n P ops Q (List.range' (i+1) l.length) (a.put o.dst undef) w:=by
   intro hK
   refine XE hS hT W l (i+1) hl' r (yY (v:= .gone) (x:=undef) hf (by simp only [VR];rfl)) hK fun μ2 h2' w2 fr2 a2 t2 f2 d2 g2 k2=>?_
   exact hQ μ2 h2' w2 fr2 a2 t2 f2 (by rw [d2,zP]) (fun d hd=>(g2 d fun o' ho'=>hd o' (List.mem_cons_of_mem _ ho')).trans (zS (hd o (List.mem_cons_self ..)))) k2
  unfold zy at hR
  cases hg:o.guard with
  | none=>
   rw [hg] at hR
   rw [if_pos (by unfold Region.wanted;rw [hg])]
   exact stepOK hR fun v h' hK=>hK
  | some g=>
   obtain ⟨j,want⟩:=g
   rw [hg] at hR
   simp only at hR
   have hw:Region.wanted o (yielded ops a.tmps)=(yielded ops a.tmps j==some want):=by unfold Region.wanted;rw [hg]
   cases hd:vU ops.toList j with
   | none=>rw [hd] at hR;exact hR.elim
   | some d=>
    rw [hd] at hR
    simp only at hR
    split at hR
    ·next b e=>
     obtain ⟨x,hx1,hx2,hx3⟩:=yr hf hd e (by simp)
     simp only [VR] at hx2
     subst hx2
     have es:=Xf e (by simp)
     cases b <;> cases want <;> simp only [cond_true,cond_false,es] at hR <;> first
      |(rw [if_pos (by rw [hw,hx3];rfl)];exact stepOK hR fun v h' hK=>hK)
      |(rw [if_neg (by rw [hw,hx3];simp)];exact ⟨fun f _=>W.all f,skipOK hR⟩)
    ·next e=>
     obtain ⟨x,hx1,hx2,hx3⟩:=yr hf hd e (by simp)
     simp only [VR] at hx2
     subst hx2
     rw [if_neg (by rw [hw,hx3];simp)]
     exact ⟨fun f _=>W.all f,skipOK hR⟩
    ·exact hR.elim
theorem yK (hS:∀f args h v h2,S f args h v h2→Sat P f args h v h2) (hT:TOK P T) {id:Nat} {ops:Array Oper} {k:Frame→H→Prop} {Q:Exit→Act→World→Prop} {F:Fence} {n:Nat} (W:zqe F n P)
  {μ :Mu} {h:H} {w:World} {fr:Frame} {a:Act} (r:Rel μ h w) (hf:VRs μ h fr a.tmps.toList) (hR:zy S T ops.toList ops.toList k fr h)
  (hQ:∀ μ' h' w' fr' a',Tr μ h w μ' h' w'→VRs μ' h' fr' a'.tmps.toList→a'.defers=a.defers→(∀d,(∀o∈ops.toList,o.dst≠some d)→a'.tmps[d]? = a.tmps[d]?)→k fr' h'→Q .normal a' w'):(Code.region id ops false).wpIn F n P Q a w:=by
 refine wpIn_region ?_
 rw [List.range_eq_range',←Array.length_toList]
 exact XE hS hT W ops.toList 0 rfl r hf hR hQ
end
end Go.Proofs.YtlcgclmobfdbcaaGreat.Cl
set_option linter.unusedVariables false
set_option linter.unusedSimpArgs false
namespace Go.Proofs.YtlcgclmobfdbcaaGreat.Cl
open Go
structure IterP where
 y:Nat
 d11:Nat
 d12:Nat
 d13:Nat
 d14:Nat
 tc:Nat
 V0:Array Oper
 V1:Array Oper
 V2:Array Oper
 V4:Array Oper
 o1:Oper
 mm:List Nat
structure AppP where
 prm:Nat
 A0:Array Oper
 A1:Array Oper
 A2:Array Oper
 A3:Array Oper
 A4:Array Oper
 g:Nat
def qg (S:SatT) (T:Tab) (q:AppP) (frA:Frame) (v:AVal) (K:H→Prop) (h:H):Prop:=
 zy S T q.A2.toList q.A2.toList (fun fr h=>zy S T q.A3.toList q.A3.toList (fun _ h=>K h) fr h) (frA.set q.prm v) h
def yv (S:SatT) (T:Tab) (p:IterP) (q:AppP) (frA:Frame) (K:H→Prop):Nat→Frame→H→Prop
 | 0,fr,h=>zy S T p.V1.toList p.V1.toList (fun fr h=>fr.getD p.tc .undef = .bool false∧K h) fr h
 | n+1,fr,h=>zy S T p.V1.toList p.V1.toList (fun fr h=>fr.getD p.tc .undef = .bool true∧zy S T p.V2.toList p.V2.toList (fun fr h=>opK S T p.o1 (fr.set p.d11 .undef) h fun v h=>
   qg S T q frA v (fun h=>zy S T p.V4.toList p.V4.toList (fun fr h=>yv S T p q frA K n (mask p.mm fr) h) (clr [p.d11,p.d12,p.d13,p.d14] fr) h) h) fr h) fr h
def zlt (S:SatT) (T:Tab) (p:IterP) (q:AppP) (fV:Nat) (n:Nat) (frV0:List AVal→Frame) (fr:Frame) (rs:List ResultVar) (h:H) (K:AVal→H→Prop):Prop:=
 zy S T q.A0.toList q.A0.toList (fun fr h=>zy S T q.A1.toList q.A1.toList (fun fr h=>∃cap,(fr.getD q.g .undef = .func fV cap∧cap.length=1)∧
  zy S T p.V0.toList p.V0.toList (fun frV h=>yv S T p q fr (fun h=>zy S T q.A4.toList q.A4.toList (fun fr h=>resK T rs fr h fun vs=>K (one vs) h) fr h) n (mask p.mm frV) h) (frV0 cap) h) fr h) fr h
section
variable {P:Program} {T:Tab} {S:SatT}
theorem zNE {α β :Type} {f: α → β} {l:Array α} {a b c d: β} (e:l.toList.map f=[a,b,c,d]):∃x y z u,l = #[x,y,z,u]∧f x=a∧f y=b∧f z=c∧f u=d:=by
 obtain ⟨l⟩:=l
 match l,e with
 | [x,y,z,u],e=>simp at e;exact ⟨x,y,z,u,rfl,e.1,e.2.1,e.2.2.1,e.2.2.2⟩
 | [],e=>simp at e
 | [_],e=>simp at e
 | [_,_],e=>simp at e
 | [_,_,_],e=>simp at e
 | _::_::_::_::_::_,e=>simp at e
theorem Xy {F:Fence} {n:Nat} (W:zqe F n P) {ops:Array Oper} {Q:Exit→Act→World→Prop} {i:Nat} {rest:List Nat} {a:Act} {w:World} {o:Oper} {op:Op} {d:Nat} (ho:ops[i]? = some o) (hp:vi o=some (op,d)) (hd:∀c,op ≠ .defer c)
  {s:Sem Value} (hs:execOp a.eval o=(do pure (.value (←s)))) {x:Value} {w':World} (hx:s.run P w = .ok x w') (hn:wpOpsIn F n P ops Q rest (a.put (some d) x) w'):wpOpsIn F n P ops Q (i::rest) a w:=by
 obtain ⟨hg,hdd,hop⟩:=yH hp
 simp only [wpOpsIn,ho]
 rw [if_pos (by unfold Region.wanted;rw [hg])]
 have hok:OpOK P (execOp a.eval o) w (fun v w2=>v=x∧w2=w'):=by rw [hs];exact OpOK.val hx ⟨rfl,rfl⟩
 refine hok.inn W (fun c=>by rw [hop];exact hd c) fun v w2 hv=>?_
 obtain ⟨rfl,rfl⟩:=hv
 rw [hdd]
 exact hn
theorem zaT {F:Fence} {n:Nat} {ops:Array Oper} {Q:Exit→Act→World→Prop} {i:Nat} {rest:List Nat} {a:Act} {w:World} {o:Oper} (ho:ops[i]? = some o) (hg:o.guard=none)
  (h:o.wpIn F n P a w (wpOpsIn F n P ops Q rest) Q):wpOpsIn F n P ops Q (i::rest) a w:=by
 simp only [wpOpsIn,ho]
 rw [if_pos (by unfold Region.wanted;rw [hg])]
 exact h
def zgP (fn:FuncId) (tmps:Array Value) (prm:Nat) (assign body:Code) (D:Nat) (st:LoopState):Loop:={ state:=st,pending:=none,fn,tmps,params:= #[prm],assign,body,defers:=D }
structure RSt (st:LoopState) (μ0:Mu) (h0:H) (w0:World) (frA:Frame) (at0:Array Value) (fn:FuncId) (prm:Nat) (assign body:Code) (l D:Nat) (μ :Mu) (h:H) (w:World):Prop where
 tr:Tr μ0 h0 w0 μ h w
 fa:VRs μ h frA at0.toList
 rl:w.heap[l]? = some (.loop (zgP fn at0 prm assign body D st))
 rd:w.heap[D]? = some (.deferred (some []))
 ml:¬Mine μ h l
 md:¬Mine μ h D
 gl:w0.heap.size≤l
 gd:w0.heap.size≤D
 ne:D≠l
theorem RSt.step {st μ0 h0 w0 frA at0 fn prm assign body l D μ h w μ1 h1 w1} (r:RSt st μ0 h0 w0 frA at0 fn prm assign body l D μ h w) (t:Tr μ h w μ1 h1 w1):RSt st μ0 h0 w0 frA at0 fn prm assign body l D μ1 h1 w1:=
 ⟨r.tr.trans t,VRs.step t.step r.fa,(t.apart r.rl r.ml).1,(t.apart r.rd r.md).1,(t.apart r.rl r.ml).2,(t.apart r.rd r.md).2,r.gl,r.gd,r.ne⟩
theorem RSt.turn {st st' μ0 h0 w0 frA at0 fn prm assign body l D μ h w} (r:RSt st μ0 h0 w0 frA at0 fn prm assign body l D μ h w):RSt st' μ0 h0 w0 frA at0 fn prm assign body l D μ h (w.putObj l (.loop (zgP fn at0 prm assign body D st'))):=
 ⟨r.tr.turn r.rl trivial trivial r.gl,r.fa,World.putObj_heap_same (Array.getElem?_eq_some_iff.1 r.rl).1,by rw [World.putObj_heap_other r.ne];exact r.rd,r.ml,r.md,r.gl,r.gd,r.ne⟩
variable {μ0:Mu} {h0:H} {w0:World} {frA:Frame} {at0:Array Value} {fn:FuncId} {l D:Nat}
theorem zBl (hS:∀f args h v h2,S f args h v h2→Sat P f args h v h2) (hT:TOK P T) {q:AppP} {i2 i3 b1:Nat} {n:Nat} {μ :Mu} {h:H} {w:World} {v:AVal} {x:Value} {K:H→Prop} {R:Ending→World→Prop}
  (r:RSt .ready μ0 h0 w0 frA at0 fn q.prm (.region i2 q.A2 false) (.block b1 (.region i3 q.A3 false)) l D μ h w) (hv:VR μ h v x) (hK:qg S T q frA v K h)
  (hR:∀ μ1 h1 w1,RSt .ready μ0 h0 w0 frA at0 fn q.prm (.region i2 q.A2 false) (.block b1 (.region i3 q.A3 false)) l D μ1 h1 w1→Step μ h μ1 h1→K h1→R (.returned (.bool true)) w1):
  RoundIn Fence.wide n P l fn (at0.setIfInBounds q.prm x) (.region i2 q.A2 false) (.block b1 (.region i3 q.A3 false)) w R:=by
 refine roundIn_of_wpIn trivial ?_
 refine yK hS hT (zaV n l P) r.tr.rel (fr:=frA.set q.prm v) ?_ hK fun μ1 h1 w1 fr1 a1 t1 f1 d1 _ k1=>?_
 ·simp only [Array.toList_setIfInBounds]
  exact r.fa.set _ hv
 show ∃w₂,(Instr.beginRound l).run P w1 = .ok () w₂ ∧_
 have r1:=r.step t1
 refine ⟨_,run_beginRound r1.rl rfl,?_⟩
 have r2:RSt .busy μ0 h0 w0 frA at0 fn q.prm (.region i2 q.A2 false) (.block b1 (.region i3 q.A3 false)) l D μ1 h1 _:=r1.turn
 refine wpIn_block (yK hS hT (zaV n l P) r2.tr.rel f1 k1 fun μ2 h2 w2 fr2 a2 t2 f2 d2 _ k2=>?_)
 have r3:=r2.step t2
 exact ⟨_,_,run_endRound none r3.rl,hR μ2 h2 _ r3.turn (t1.step.trans t2.step) k2⟩
theorem zis {ρ :Operand→Value} {o:Oper} {c:Call} (h:o.op = .call c):execOp ρ o=(do let d ←resolve ρ c o.type;invoke d.target d.args):=by unfold execOp;rw [h]
theorem zEq {ρ :Operand→Value} {o:Oper} {t:TypeId} {x:Operand} (h:o.op = .unOp .not t x):execOp ρ o=(do pure (.value (←Op.unary .not (ρ x)))):=by unfold execOp;rw [h]
theorem zbb (hS:∀f args h v h2,S f args h v h2→Sat P f args h v h2) (hT:TOK P T) {p:IterP} {q:AppP} {i1 i2 i3 i4 j2 j3 b0 b1 bb:Nat} {V3:Array Oper} {tt:Nat} {yc:Call} {n:Nat}
  (hV3:V3.toList.map vi=[some (.move (.tmp p.y),p.d11),some (p.o1.op,p.d12),some (.call yc,p.d13),some (.unOp .not tt (.tmp p.d13),p.d14)]) (ho1:V3[1]? = some p.o1) (hyc:yc.callee = .value (.tmp p.d11)) (hya:yc.args = #[.tmp p.d12])
  (hnd:[p.y,p.d11,p.d12,p.d13,p.d14].Nodup) (hyk:∀V∈[p.V1,p.V2,p.V4],∀o∈V.toList,∀d∈[p.y,p.d11,p.d12,p.d13,p.d14],o.dst≠some d)
  {K:H→Prop} {Q:Exit→Act→World→Prop}
  (hQ:∀ μ h w a,RSt .ready μ0 h0 w0 frA at0 fn q.prm (.region j2 q.A2 false) (.block bb (.region j3 q.A3 false)) l D μ h w→a.defers=[]→K h→Q (.exit b0) a w):
  ∀(N:Nat) {μ :Mu} {h:H} {w:World} {fr:Frame} {a:Act},RSt .ready μ0 h0 w0 frA at0 fn q.prm (.region j2 q.A2 false) (.block bb (.region j3 q.A3 false)) l D μ h w→VRs μ h fr a.tmps.toList→a.tmps[p.y]? = some (.func (.yield l) #[] #[])→
   (∀d∈[p.y,p.d11,p.d12,p.d13,p.d14],d<a.tmps.size)→a.defers=[]→yv S T p q frA K N fr h→
   Code.roundsIn Fence.wide n P (.seq (.region i1 p.V1 false) (.seq (.cond (.tmp p.tc) .skip (.exit b0)) (.seq (.block b1 (.seq (.region i2 p.V2 false) (.seq (.region i3 V3 false) (.cond (.tmp p.d14) .ret .skip)))) (.region i4 p.V4 false)))) Q (N+1) a w
 | 0,μ,h,w,fr,a,r,hf,hy,hds,hdf,hg=>by
  rw [roundsIn_succ]
  refine wpIn_seq (yK hS hT (yD n P) r.tr.rel hf hg fun μ1 h1 w1 fr1 a1 t1 f1 d1 _ k1=>?_)
  have hc:=yJ (a:=a1) f1 (.tmp p.tc)
  rw [show ev fr1 (.tmp p.tc) = .bool false from k1.1] at hc
  simp only [VR] at hc
  refine wpIn_seq (wpIn_cond_false hc (wpIn_exit ?_))
  exact hQ μ1 h1 w1 a1 (r.step t1) (by rw [d1,hdf]) k1.2
 | N+1,μ,h,w,fr,a,r,hf,hy,hds,hdf,hg=>by
  rw [roundsIn_succ]
  have hyk1:=hyk p.V1 (by simp)
  have hyk2:=hyk p.V2 (by simp)
  have hyk4:=hyk p.V4 (by simp)
  obtain ⟨o0,o1,o2,o3,rfl,e0,e1,e2,e3⟩:=zNE hV3
  have ho1':o1=p.o1:=by simpa using ho1
  simp only [List.nodup_cons,List.mem_cons,List.not_mem_nil,or_false,not_or,not_false_eq_true,List.nodup_nil,and_true] at hnd
  obtain ⟨⟨n01,n02,n03,n04⟩,⟨n12,n13,n14⟩,⟨n23,n24⟩,n34⟩:=hnd
  refine wpIn_seq (yK hS hT (yD n P) r.tr.rel hf hg fun μ1 h1 w1 fr1 a1 t1 f1 d1 g1 k1=>?_)
  have hc:=yJ (a:=a1) f1 (.tmp p.tc)
  rw [show ev fr1 (.tmp p.tc) = .bool true from k1.1] at hc
  simp only [VR] at hc
  refine wpIn_seq (wpIn_cond_true hc (wpIn_skip ?_))
  refine wpIn_seq (wpIn_block (wpIn_seq (yK hS hT (yD n P) t1.rel f1 k1.2 fun μ2 h2 w2 fr2 a2 t2 f2 d2 g2 k2=>?_)))
  have r2:=(r.step t1).step t2
  have get2:∀d,d∈[p.y,p.d11,p.d12,p.d13,p.d14]→a2.tmps[d]? = a.tmps[d]? :=fun d hd=>(g2 d fun o ho=>hyk2 o ho d hd).trans (g1 d fun o ho=>hyk1 o ho d hd)
  have sz2:∀d,d∈[p.y,p.d11,p.d12,p.d13,p.d14]→d<a2.tmps.size:=fun d hd=>by
   have:=get2 d hd
   rw [Array.getElem?_eq_getElem (hds d hd)] at this
   exact (Array.getElem?_eq_some_iff.1 this).1
  have hy2:a2.tmps[p.y]? = some (.func (.yield l) #[] #[]):=by rw [get2 _ (by simp)];exact hy
  obtain ⟨_,_,p0⟩:=yH e0
  obtain ⟨q1g,q1d,p1⟩:=yH e1
  obtain ⟨q2g,q2d,p2⟩:=yH e2
  obtain ⟨_,_,p3⟩:=yH e3
  refine wpIn_seq (wpIn_region ?_)
  show wpOpsIn Fence.wide n P #[o0,o1,o2,o3] _ [0,1,2,3] a2 w2
  refine Xy (yD n P) rfl e0 (fun c h=>by cases h) (zir p0) (x:= .func (.yield l) #[] #[]) (w':=w2) (by rw [yB hy2];rfl) ?_
  -- the value that is handed on
  have hokk:=wu (P:=P) hS hT t2.rel (o:=o1) (a:=a2.put (some p.d11) (.func (.yield l) #[] #[])) (VRs.put_clr f2) (by rw [ho1'];exact k2)
  refine zaT (o:=o1) rfl q1g ?_
  refine hokk.inn (yD n P) (XQ (by rw [ho1'];exact k2)) fun x w3 ⟨v,h3,μ3,k3,t3,v3⟩=>?_
  rw [q1d]
  refine zaT (o:=o2) rfl q2g ?_
  have r3:=r2.step t3
  generalize ha3:(a2.put (some p.d11) (.func (.yield l) #[] #[])).put (some p.d12) x=a3
  have hya3:a3.eval (.tmp p.d11) = .func (.yield l) #[] #[]:=by
   rw [←ha3]
   refine yB ?_
   rw [zS (by simpa using fun e=>n12 e.symm)]
   exact yP (sz2 _ (by simp))
  have hx3:a3.eval (.tmp p.d12)=x:=by
   rw [←ha3]
   exact yB (yP (by rw [yp];exact sz2 _ (by simp)))
  refine ⟨fun f _=>trivial,?_⟩
  rw [show Oper.semAt Fence.wide.round a3.eval o2=execOp a3.eval o2 from rfl,zis p2]
  have hrun:(do let d ←resolve a3.eval yc o2.type;invoke d.target d.args:Sem Next).run P w3 = .ok (.round l fn (at0.setIfInBounds q.prm x) (.region j2 q.A2 false) (.block bb (.region j3 q.A3 false))) w3:=by
   have hy:=run_yield (P:=P) (args:= #[x]) r3.rl (by simp [zgP])
   have hr:resolve a3.eval yc o2.type=pure { target:= .fn (.yield l) #[],args:= #[x] }:=by
    simp only [resolve,hyc,hya,hya3]
    simp [Deferred.ofValue,hx3]
   rw [hr]
   simp only [pure_bind,invoke]
   rw [hy]
   simp [zgP]
  rw [hrun]
  refine ⟨fun hh=>(by cases hh),zBl hS hT r3 v3 k3 fun μ5 h5 w5 r5 st5 k5=>?_⟩
  show wpOpsIn Fence.wide n P #[o0,o1,o2,o3] _ [3] _ w5
  rw [q2d]
  refine Xy (yD n P) rfl e3 (fun c h=>by cases h) (zEq p3) (x:= .bool false) (w':=w5) (by rw [yB (yP (by rw [←ha3,yp,yp];exact sz2 _ (by simp)))];rfl) ?_
  show (Code.cond (.tmp p.d14) .ret .skip).wpIn Fence.wide n P _ _ w5
  refine wpIn_cond_false (yB (yP (by rw [←ha3];simp only [yp];exact sz2 _ (by simp)))) (wpIn_skip ?_)
  show (Code.region i4 p.V4 false).wpIn Fence.wide n P _ _ w5
  generalize ha5:(a3.put (some p.d13) (.bool true)).put (some p.d14) (.bool false)=a5
  have f5:VRs μ5 h5 (clr [p.d11,p.d12,p.d13,p.d14] fr2) a5.tmps.toList:=by
   rw [←ha5,←ha3]
   exact VRs.put_clr (VRs.put_clr (VRs.put_clr (VRs.put_clr (VRs.step (t3.step.trans st5) f2))))
  refine yK hS hT (yD n P) r5.tr.rel f5 k5 fun μ6 h6 w6 fr6 a6 t6 f6 d6 g6 k6=>?_
  have get6:∀d,d∈[p.y,p.d11,p.d12,p.d13,p.d14]→a6.tmps[d]? = a5.tmps[d]? :=fun d hd=>g6 d fun o ho=>hyk4 o ho d hd
  have sz5:a5.tmps.size=a2.tmps.size:=by rw [←ha5,←ha3];simp only [yp]
  refine zbb hS hT hV3 ho1 hyc hya (by simp only [List.nodup_cons,List.mem_cons,List.not_mem_nil,or_false,not_or,not_false_eq_true,List.nodup_nil,and_true];exact ⟨⟨n01,n02,n03,n04⟩,⟨n12,n13,n14⟩,⟨n23,n24⟩,n34⟩) hyk hQ N (r5.step t6) (vH _ f6) ?_ ?_ ?_ k6
  ·rw [get6 _ (by simp),←ha5,←ha3,zS (by simpa using fun e=>n04 e.symm),zS (by simpa using fun e=>n03 e.symm),zS (by simpa using fun e=>n02 e.symm),zS (by simpa using fun e=>n01 e.symm)]
   exact hy2
  ·intro d hd
   have:=get6 d hd
   rw [Array.getElem?_eq_getElem (show d<a5.tmps.size by rw [sz5];exact sz2 d hd)] at this
   exact (Array.getElem?_eq_some_iff.1 this).1
  ·rw [d6,←ha5,←ha3]
   simp only [zP]
   rw [d2,d1,hdf]
theorem zqg (hS:∀f args h v h2,S f args h v h2→Sat P f args h v h2) (hT:TOK P T) {p:IterP} {q:AppP} {i0 i1 i2 i3 i4 j2 j3 b0 b1 bb:Nat} {V3:Array Oper} {tt:Nat} {yc:Call} {n:Nat}
  {f:FuncId} {fnv:Func} (hfn:P.funcs[f]? = some fnv)
  (hb:fnv.body=some (.seq (.region i0 p.V0 false) (.block b0 (.loop (.seq (.region i1 p.V1 false) (.seq (.cond (.tmp p.tc) .skip (.exit b0)) (.seq (.block b1 (.seq (.region i2 p.V2 false) (.seq (.region i3 V3 false) (.cond (.tmp p.d14) .ret .skip)))) (.region i4 p.V4 false))))))))
  (hres:fnv.results = #[])
  (hV3:V3.toList.map vi=[some (.move (.tmp p.y),p.d11),some (p.o1.op,p.d12),some (.call yc,p.d13),some (.unOp .not tt (.tmp p.d13),p.d14)]) (ho1:V3[1]? = some p.o1) (hyc:yc.callee = .value (.tmp p.d11)) (hya:yc.args = #[.tmp p.d12])
  (hnd:[p.y,p.d11,p.d12,p.d13,p.d14].Nodup) (hyk:∀V∈[p.V0,p.V1,p.V2,p.V4],∀o∈V.toList,∀d∈[p.y,p.d11,p.d12,p.d13,p.d14],o.dst≠some d)
  {K:H→Prop} {R:Ending→World→Prop} {N:Nat} {μ :Mu} {h:H} {w:World} {cap:List AVal} {ds:Array Value}
  (r:RSt .ready μ0 h0 w0 frA at0 fn q.prm (.region j2 q.A2 false) (.block bb (.region j3 q.A3 false)) l D μ h w) (hcap:VRs μ h cap ds.toList) (hy0:p.y=0) (hsz:∀d∈[p.y,p.d11,p.d12,p.d13,p.d14],d<fnv.ntmps) (hnt:1+ds.size≤fnv.ntmps)
  (hK:zy S T p.V0.toList p.V0.toList (fun frV h=>yv S T p q frA K N (mask p.mm frV) h) (fr0 fnv (.undef::cap)) h)
  (hR:∀ μ h w v,RSt .ready μ0 h0 w0 frA at0 fn q.prm (.region j2 q.A2 false) (.block bb (.region j3 q.A3 false)) l D μ h w→K h→R (.returned v) w):
  CallsIn Fence.wide n P f (#[.func (.yield l) #[] #[]]++ds) w R:=by
 refine callsIn_of_wp hfn hb trivial ?_
 have hargs:(#[Value.func (.yield l) #[] #[]]++ds).size=1+ds.size:=by simp
 generalize ha:({ tmps:=(#[Value.func (.yield l) #[] #[]]++ds)++Array.replicate (fnv.ntmps-(#[Value.func (.yield l) #[] #[]]++ds).size) undef,defers:=[] }:Act)=a
 have hf:VRs μ h (fr0 fnv (.undef::cap)) a.tmps.toList:=by
  rw [←ha]
  unfold fr0
  simp only [Array.toList_append]
  have hl:ds.size=cap.length:=by rw [←Array.length_toList,hcap.len]
  refine VRs.append (VRs.append (VRs.cons (by simp only [VR]) VRs.nil:VRs μ h [.undef] _) hcap) ?_
  refine VRs.mk (by simp [hl,Nat.add_comm]) fun i v d h1 h2=>?_
  rw [List.getElem?_replicate] at h1
  simp only [Array.toList_replicate,List.getElem?_replicate] at h2
  split at h1
  ·cases h1
   split at h2
   ·cases h2
    simp only [VR]
    rfl
   ·cases h2
  ·cases h1
 have hsz':a.tmps.size=fnv.ntmps:=by rw [←ha];simp;omega
 have hyv:a.tmps[p.y]? = some (.func (.yield l) #[] #[]):=by
  rw [←ha,hy0]
  show ((#[Value.func (.yield l) #[] #[]]++ds)++Array.replicate _ undef)[0]? = _
  rw [Array.getElem?_append,if_pos (by rw [hargs];omega),Array.getElem?_append,if_pos (by simp)]
  rfl
 have had:a.defers=[]:=by rw [←ha]
 refine wpIn_seq (yK hS hT (yD n P) r.tr.rel hf hK fun μ1 h1 w1 fr1 a1 t1 f1 d1 g1 k1=>?_)
 have hyk0:=hyk p.V0 (by simp)
 have get1:∀d,d∈[p.y,p.d11,p.d12,p.d13,p.d14]→a1.tmps[d]? = a.tmps[d]? :=fun d hd=>g1 d fun o ho=>hyk0 o ho d hd
 refine wpIn_block (wpIn_loop_rounds (N+1) ?_)
 refine zbb hS hT hV3 ho1 hyc hya hnd (fun V hV=>hyk V (List.mem_cons_of_mem _ hV)) (b0:=b0) (K:=K) ?_ N (r.step t1) (vH _ f1) (by rw [get1 _ (by simp)];exact hyv) ?_ (by rw [d1,had]) k1
 ·intro μ2 h2 w2 a2 r2 d2 k2
  simp only [Exit.inBlock,if_true]
  show a2.defers=[]∧_
  refine ⟨d2,.tuple #[],?_,hR μ2 h2 w2 _ r2 k2⟩
  unfold results
  rw [hres]
  simp
 ·intro d hd
  have:=get1 d hd
  rw [Array.getElem?_eq_getElem (show d<a.tmps.size by rw [hsz'];exact hsz d hd)] at this
  exact (Array.getElem?_eq_some_iff.1 this).1
theorem yd {β :Type} (ops l:List Oper) (fr:Frame) (h:H) {G:Frame→H→(β →Prop)→Prop} (hG:∀fr h,Lin (G fr h)):Lin fun K=>zy S T ops l (fun fr h=>G fr h K) fr h:=
 Lin.bind (F:=fun (K:Frame×H→Prop)=>zy S T ops l (fun fr h=>K (fr,h)) fr h) (G:=fun x K=>G x.1 x.2 K) (Yf ops l fr h) fun x=>hG x.1 x.2
theorem zcm {β :Type} (q:AppP) (frA:Frame) (v:AVal) (h:H) {G:H→(β →Prop)→Prop} (hG:∀h,Lin (G h)):Lin fun K=>qg S T q frA v (fun h=>G h K) h:=
 yd (G:=fun fr h K=>zy S T q.A3.toList q.A3.toList (fun _ h=>G h K) fr h) _ _ _ _ fun fr h=>yd (G:=fun _ h K=>G h K) _ _ _ _ fun _ h=>hG h
theorem YT {β :Type} (p:IterP) (q:AppP) (frA:Frame) {G:H→(β →Prop)→Prop} (hG:∀h,Lin (G h)):∀(n:Nat) (fr:Frame) (h:H),Lin fun K=>yv S T p q frA (fun h=>G h K) n fr h
 | 0,fr,h=>yd (G:=fun fr h K=>fr.getD p.tc .undef = .bool false∧G h K) _ _ _ _ fun fr h=>(hG h).and _
 | n+1,fr,h=>by
  unfold yv
  refine yd (G:=fun fr h K=>fr.getD p.tc .undef = .bool true∧zy S T p.V2.toList p.V2.toList (fun fr h=>opK S T p.o1 (fr.set p.d11 .undef) h fun v h=>
   qg S T q frA v (fun h=>zy S T p.V4.toList p.V4.toList (fun fr h=>yv S T p q frA (fun h=>G h K) n (mask p.mm fr) h) (clr [p.d11,p.d12,p.d13,p.d14] fr) h) h) fr h) _ _ _ _ fun fr h=>Lin.and _ ?_
  refine yd (G:=fun fr h K=>opK S T p.o1 (fr.set p.d11 .undef) h fun v h=>
   qg S T q frA v (fun h=>zy S T p.V4.toList p.V4.toList (fun fr h=>yv S T p q frA (fun h=>G h K) n (mask p.mm fr) h) (clr [p.d11,p.d12,p.d13,p.d14] fr) h) h) _ _ _ _ fun fr h=>?_
  refine xS (G:=fun v h K=>qg S T q frA v (fun h=>zy S T p.V4.toList p.V4.toList (fun fr h=>yv S T p q frA (fun h=>G h K) n (mask p.mm fr) h) (clr [p.d11,p.d12,p.d13,p.d14] fr) h) h) _ _ _ fun v h=>?_
  refine zcm (G:=fun h K=>zy S T p.V4.toList p.V4.toList (fun fr h=>yv S T p q frA (fun h=>G h K) n (mask p.mm fr) h) (clr [p.d11,p.d12,p.d13,p.d14] _) h) _ _ _ _ fun h=>?_
  exact yd (G:=fun fr h K=>yv S T p q frA (fun h=>G h K) n (mask p.mm fr) h) _ _ _ _ fun fr h=>YT p q frA hG n _ h
theorem zne (p:IterP) (q:AppP) (fV n:Nat) (frV0:List AVal→Frame) (fr:Frame) (rs:List ResultVar) (h:H):Lin fun (K:AVal×H→Prop)=>zlt S T p q fV n frV0 fr rs h fun v h=>K (v,h):=by
 unfold zlt
 refine yd (G:=fun fr h (K:AVal×H→Prop)=>zy S T q.A1.toList q.A1.toList (fun fr h=>∃cap,(fr.getD q.g .undef = .func fV cap∧cap.length=1)∧
  zy S T p.V0.toList p.V0.toList (fun frV h=>yv S T p q fr (fun h=>zy S T q.A4.toList q.A4.toList (fun fr h=>resK T rs fr h fun vs=>K (one vs,h)) fr h) n (mask p.mm frV) h) (frV0 cap) h) fr h) _ _ _ _ fun fr h=>?_
 refine yd (G:=fun fr h (K:AVal×H→Prop)=>∃cap,(fr.getD q.g .undef = .func fV cap∧cap.length=1)∧
  zy S T p.V0.toList p.V0.toList (fun frV h=>yv S T p q fr (fun h=>zy S T q.A4.toList q.A4.toList (fun fr h=>resK T rs fr h fun vs=>K (one vs,h)) fr h) n (mask p.mm frV) h) (frV0 cap) h) _ _ _ _ fun fr h=>Lin.exists_ fun cap=>Lin.and _ ?_
 refine yd (G:=fun frV h (K:AVal×H→Prop)=>yv S T p q fr (fun h=>zy S T q.A4.toList q.A4.toList (fun fr h=>resK T rs fr h fun vs=>K (one vs,h)) fr h) n (mask p.mm frV) h) _ _ _ _ fun frV h=>?_
 refine YT (G:=fun h (K:AVal×H→Prop)=>zy S T q.A4.toList q.A4.toList (fun fr h=>resK T rs fr h fun vs=>K (one vs,h)) fr h) p q fr (fun h=>?_) n _ h
 exact yd (G:=fun fr h (K:AVal×H→Prop)=>resK T rs fr h fun vs=>K (one vs,h)) _ _ _ _ fun fr h=>Lin.map (ZF fr h rs) fun vs=>(one vs,h)
theorem znh (hT:TOK P T) {fn:Func} {μ :Mu} {h:H} {w:World} {fr:Frame} {tmps:Array Value} {K:AVal→Prop} (r:Rel μ h w) (hf:VRs μ h fr tmps.toList) (hK:resK T fn.results.toList fr h fun vs=>K (one vs)):
  ∃x v,(results fn tmps).run P w = .ok x w∧K v∧VR μ h v x:=by
 obtain ⟨vs,ds',k1,k2,k3⟩:=qj (P:=P) hT r hf _ _ hK
 have hone:∃x,(results fn tmps).run P w = .ok x w∧VR μ h (one vs) x:=by
  rw [zbc,Sem.run_bind,Array.mapM_eq_mapM_toList,Sem.run_map,k1]
  simp only [Result.andThen_ok]
  cases vs with
  | nil=>
   simp only [VRs] at k3
   subst k3
   exact ⟨_,rfl,by simp only [one,VR];exact ⟨#[],rfl,VRs.nil⟩⟩
  | cons v1 vs=>
   have k3':=k3
   simp only [VRs] at k3'
   obtain ⟨d1,ds'',rfl,hv1,hvs⟩:=k3'
   cases vs with
   | nil=>
    simp only [VRs] at hvs
    subst hvs
    exact ⟨d1,rfl,hv1⟩
   | cons v2 vs=>
    have k4:=hvs
    simp only [VRs] at k4
    obtain ⟨d2,ds3,rfl,_,_⟩:=k4
    refine ⟨.tuple (d1::d2::ds3).toArray,?_,by simp only [one,VR];exact ⟨_,rfl,k3⟩⟩
    simp
 obtain ⟨x,hx,hvx⟩:=hone
 exact ⟨x,_,hx,k2,hvx⟩
theorem zqd (hT:TOK P T) {p:IterP} {q:AppP} {i0 i1 i2 i3 i4 j0 j1 j2 j3 j4 b0 b1 bb c0:Nat} {V3:Array Oper} {tt:Nat} {yc:Call} {fV f:FuncId} {fnv fna:Func} {N:Nat}
  (hfn:P.funcs[fV]? = some fnv)
  (hb:fnv.body=some (.seq (.region i0 p.V0 false) (.block b0 (.loop (.seq (.region i1 p.V1 false) (.seq (.cond (.tmp p.tc) .skip (.exit b0)) (.seq (.block b1 (.seq (.region i2 p.V2 false) (.seq (.region i3 V3 false) (.cond (.tmp p.d14) .ret .skip)))) (.region i4 p.V4 false))))))))
  (hres:fnv.results = #[])
  (hV3:V3.toList.map vi=[some (.move (.tmp p.y),p.d11),some (p.o1.op,p.d12),some (.call yc,p.d13),some (.unOp .not tt (.tmp p.d13),p.d14)]) (ho1:V3[1]? = some p.o1) (hyc:yc.callee = .value (.tmp p.d11)) (hya:yc.args = #[.tmp p.d12])
  (hnd:[p.y,p.d11,p.d12,p.d13,p.d14].Nodup) (hyk:∀V∈[p.V0,p.V1,p.V2,p.V4],∀o∈V.toList,∀d∈[p.y,p.d11,p.d12,p.d13,p.d14],o.dst≠some d)
  (hy0:p.y=0) (hsz:∀d∈[p.y,p.d11,p.d12,p.d13,p.d14],d<fnv.ntmps)
  (hfa:P.funcs[f]? = some fna)
  (hba:fna.body=some (.seq (.region j0 q.A0 false) (.seq (.seq (.region j1 q.A1 false) (.block c0 (.rangeFunc (.tmp q.g) #[q.prm] (.region j2 q.A2 false) (.block bb (.region j3 q.A3 false))))) (.seq (.region j4 q.A4 false) .ret))))
  (hcall:∀(a:Array Value) (w:World),(callFunc f a).run P w = .ok (.enter f a) w) (hcallV:∀(a:Array Value) (w:World),(callFunc fV a).run P w = .ok (.enter fV a) w)
  {args:List AVal} {h:H} {K:AVal→H→Prop} (hcp:2≤fnv.ntmps)
  (hH:zlt (Sat P) T p q fV N (fun cap=>fr0 fnv (.undef::cap)) (fr0 fna args) fna.results.toList h K):∃v h2,Sat P f args h v h2∧K v h2:=by
 have hl:=zne (S:=Sat P) (T:=T) p q fV N (fun cap=>fr0 fnv (.undef::cap)) (fr0 fna args) fna.results.toList h
 obtain ⟨⟨v,h2⟩,hk,hx⟩:=Lin.wit hl (K:=fun p=>K p.1 p.2) hH
 refine ⟨v,h2,⟨hcall,fun μ w ds r hd=>callsIn_wide.1 (callsIn_of_wp_marks (n:=2) hfa hba trivial ?_)⟩,hk⟩
 clear hk hH hl
 have hS:∀f args h v h2,Sat P f args h v h2→Sat P f args h v h2:=fun _ _ _ _ _ h=>h
 have hfr:VRs μ h (fr0 fna args) (ds.toArray++Array.replicate (fna.ntmps-ds.toArray.size) undef).toList:=by
  unfold fr0
  rw [Array.toList_append]
  refine hd.append ?_
  have:ds.toArray.size=args.length:=by simp [hd.len]
  rw [this]
  refine VRs.mk (by simp) fun i v d h1 h2=>?_
  rw [List.getElem?_replicate] at h1
  simp only [Array.toList_replicate,List.getElem?_replicate] at h2
  split at h1
  ·next hi=>
   rw [if_pos hi] at h2
   cases h1
   cases h2
   simp only [VR]
   rfl
  ·cases h1
 refine wpIn_seq (yK hS hT (yD 2 P) r hfr hx fun μ1 h1 w1 fr1 a1 t1 f1 d1 _ k1=>?_)
 refine wpIn_seq (wpIn_seq (yK hS hT (yD 2 P) t1.rel f1 k1 fun μ2 h2' w2 fr2 a2 t2 f2 d2 _ k2=>?_))
 have t:=t1.trans t2
 obtain ⟨cap,⟨hcap,hcl⟩,k3⟩:=k2
 have hg:=yJ (a:=a2) f2 (.tmp q.g)
 rw [show ev fr2 (.tmp q.g) = .func fV cap from hcap] at hg
 simp only [VR] at hg
 obtain ⟨dsc,hg,hvc⟩:=hg
 have ad2:a2.defers=[]:=by rw [d2,d1]
 refine wpIn_block (wpIn_rangeFunc fun fn _=>?_)
 generalize hW1:(w2.alloc (.deferred (some []))).alloc (.loop (zgP fn a2.tmps q.prm (.region j2 q.A2 false) (.block bb (.region j3 q.A3 false)) w2.heap.size .ready))=W1
 have sz1:(w2.alloc (.deferred (some []))).heap.size=w2.heap.size+1:=zQ _ _
 have rs:RSt .ready μ h w fr2 a2.tmps fn q.prm (.region j2 q.A2 false) (.block bb (.region j3 q.A3 false)) (w2.heap.size+1) w2.heap.size μ2 h2' W1:=by
  have e1:=Tr.extra t.rel (.deferred (some []))
  have e2:=Tr.extra e1.rel (.loop (zgP fn a2.tmps q.prm (.region j2 q.A2 false) (.block bb (.region j3 q.A3 false)) w2.heap.size .ready))
  rw [hW1] at e2
  refine ⟨t.trans (e1.trans e2),f2,?_,?_,?_,?_,?_,t.keep.size,by omega⟩
  ·rw [←hW1,←sz1];exact heap_alloc_new _ _
  ·rw [←hW1,heap_alloc_old _ _ (by omega)];exact heap_alloc_new _ _
  ·intro hc;have:=t.rel.mine_lt hc;omega
  ·intro hc;have:=t.rel.mine_lt hc;omega
  ·have:=t.keep.size;omega
 refine ⟨w2.heap.size+1,[{ target:= .collected w2.heap.size,args:= #[] }],W1,{ target:= .fn (.func fV) dsc,args:= #[.func (.yield (w2.heap.size+1)) #[] #[]] },W1,fV,#[.func (.yield (w2.heap.size+1)) #[] #[]]++dsc,W1,?_,?_,?_,?_,fun hh=>(by cases hh),?_⟩
 ·rw [←hW1];exact run_enterLoop_outer _ _ _ _ _
 ·simp only [resolve,hg]
  simp [Deferred.ofValue,Act.eval]
 ·intro f' hf';trivial
 ·simp only [invoke];exact hcallV _ _
 refine zqg hS hT hfn hb hres hV3 ho1 hyc hya hnd hyk rs hvc hy0 hsz ?_ k3 fun μ3 h3 w3 vr r3 k4=>?_
 ·have:=hvc.len
  rw [Array.length_toList] at this
  omega
 refine ⟨none,_,run_endLoop r3.rl (by simp [zgP]),?_⟩
 have r4:RSt .exhausted μ h w fr2 a2.tmps fn q.prm (.region j2 q.A2 false) (.block bb (.region j3 q.A3 false)) (w2.heap.size+1) w2.heap.size μ3 h3 _:=r3.turn
 show Code.wpIn Fence.wide 2 P (.seq (.region j4 q.A4 false) .ret) _ _ (w3.putObj (w2.heap.size+1) (.loop (zgP fn a2.tmps q.prm (.region j2 q.A2 false) (.block bb (.region j3 q.A3 false)) w2.heap.size .exhausted)))
 refine wpIn_seq (yK hS hT (yD 2 P) r4.tr.rel (a:={ a2 with defers:=[{ target:= .collected w2.heap.size,args:= #[] }]++a2.defers }) r4.fa k4 fun μ5 h5 w5 fr5 a5 t5 f5 d5 _ k5=>?_)
 refine wpIn_ret ?_
 have r5:=r4.step t5
 show LeavesInM Fence.wide 2 P fna a5.tmps _ a5.defers .returning w5
 rw [d5,ad2]
 refine ⟨by simp,.inl ⟨w2.heap.size,_,rfl,run_takeDeferred r5.rd,?_⟩⟩
 have rr:Tr μ h w μ5 h5 (w5.putObj w2.heap.size (.deferred none)):=r5.tr.turn r5.rd trivial trivial r5.gd
 generalize w5.putObj w2.heap.size (.deferred none)=w6 at rr
 obtain ⟨x,v',hxr,hve,hv⟩:=znh (P:=P) hT (fn:=fna) (tmps:=a5.tmps) (K:=fun v'=>(v',h5)=(v,h2)) rr.rel f5 k5
 cases hve
 exact ⟨x,hxr,x,μ5,rfl,rr,hv⟩
end
end Go.Proofs.YtlcgclmobfdbcaaGreat.Cl
set_option linter.unusedVariables false
set_option linter.unusedSimpArgs false
namespace Go.Proofs.YtlcgclmobfdbcaaGreat.Cl
open Go Go.Sort Go.Shelf Go.Lib
theorem zmV (w w':World) (hos:w'.os=w.os) (htp:w'.tape=w.tape) (hout:w'.output=w.output) (hsz:w.heap.size≤w'.heap.size) (hblk:∀k,k<w.heap.size→w'.heap[k]? = w.heap[k]?) (hdr:w.drawn≤w'.drawn):
  ∃q os',w'=Sort.grow (w.drewN q) os':=by
 refine ⟨w'.drawn-w.drawn,w'.heap.extract w.heap.size w'.heap.size,?_⟩
 have hh:w'.heap=w.heap++w'.heap.extract w.heap.size w'.heap.size:=by
  apply Array.ext_getElem?
  intro i
  rw [Array.getElem?_append]
  split
  ·next h=>exact hblk i h
  ·next h=>
   rw [Array.getElem?_extract]
   split
   ·next h2=>congr 1;omega
   ·next h2=>
    rw [Array.getElem?_eq_none]
    omega
 have hd:w.drawn+(w'.drawn-w.drawn)=w'.drawn:=by omega
 cases w
 cases w'
 simp only [Sort.grow,World.drewN] at *
 rw [hd]
 subst hos htp hout
 congr 1
theorem Tr.grown {μ h w} (r:Rel μ h w) (os:Array Go.Obj):Tr μ h w μ h (Sort.grow w os):=by
 have hs:(Sort.grow w os).heap.size=w.heap.size+os.size:=size_grow _ _
 have hold:∀k,k<w.heap.size→(Sort.grow w os).heap[k]? = w.heap[k]? :=fun k hk=>heap_grow_old w os hk
 have hc:∀a:Addr,a.block<w.heap.size→(Sort.grow w os).cell? a=w.cell? a:=fun a ha=>World.cell?_of_block (hold _ ha)
 have hf:∀a:Addr,a.block<w.heap.size→(Sort.grow w os).frozen? a=w.frozen? a:=fun a ha=>World.frozen?_of_block (hold _ ha)
 refine ⟨⟨fun o cs ho=>?_,fun o cs ho i v hv=>?_,fun o es ho=>?_,r.sep⟩,Step.refl _ _,⟨rfl,rfl,rfl,by rw [hs];omega,fun k hk _=>hold k hk,Nat.le_refl _⟩,fun _ h=> .inl h,fun _ h=> .inl h⟩
 ·obtain ⟨h1,h2,h3,h4⟩:=r.own o cs ho
  refine ⟨by rw [hs];omega,h2,fun i hi=>?_,fun i v hv=>?_⟩
  ·rw [hc _ h1,hf _ h1];exact h3 i hi
  ·obtain ⟨q,d,h5,h6⟩:=h4 i v hv
   exact ⟨q,d,by rw [hc _ h1];exact h5,h6⟩
 ·obtain ⟨q,d,h5,h6⟩:=r.ro o cs ho i v hv
  exact ⟨q,d,by rw [hc _ (vZ h5)];exact h5,h6⟩
 ·obtain ⟨h1,ms,ck,h2,h3,h4⟩:=r.mp o es ho
  exact ⟨by rw [hs];omega,ms,ck,by rw [hold _ h1];exact h2,h3,h4⟩
theorem zcz {α β :Type} (cl: α →List β) {k:Nat} (hk:∀x,(cl x).length=k) (k0:0<k):∀(ts:List α) (i:Nat),(ts.map cl).flatten[i]? = (ts[i/k]?).bind fun x=>(cl x)[i%k]?
 | [],i=>by simp
 | t::ts,i=>by
  rw [List.map_cons,List.flatten_cons,List.getElem?_append,hk]
  by_cases h:i<k
  ·rw [if_pos h,Nat.div_eq_of_lt h,Nat.mod_eq_of_lt h];rfl
  ·rw [if_neg h,zcz cl hk k0 ts (i-k)]
   have e1:i/k=(i-k)/k+1:=Nat.div_eq_sub_div k0 (by omega)
   have e2:i%k=(i-k)%k:=Nat.mod_eq_sub_mod (by omega)
   rw [e1,e2];simp
theorem ZM {α β :Type} (cl: α →List β) {k:Nat} (hk:∀x,(cl x).length=k):∀(ts:List α),(ts.map cl).flatten.length=ts.length*k
 | []=>by simp
 | t::ts=>by rw [List.map_cons,List.flatten_cons,List.length_append,hk,ZM cl hk ts,List.length_cons,Nat.add_mul];omega
section
variable {P:Program} {α :Type} [Inhabited α]
theorem zEu {g:Nat} {enc: α →List Value} {cl: α →List AVal} {cf: α → α →Int} (hec:∀x (μ :Mu) (h:H),VRs μ h (cl x) (enc x)) (hcl:∀x,(cl x).all AVal.isCell=true)
  (hcmp:∀x y,∃h2,Sat P g [.agg (cl x),.agg (cl y)] [] (.int .i64 (cf x y)) h2) (k blk off size:Nat) (w:World):CmpLays P g #[] enc k cf blk off size w:=by
 intro m os dk hs x y
 generalize sortWorldK enc k w blk off m dk os=W
 obtain ⟨h2,_,hsat⟩:=hcmp x y
 have hrel:Rel (fun _=>⟨0,0,0⟩) [] W:=⟨fun o cs e=>by simp at e,fun o cs e=>by simp at e,fun o es e=>by simp at e,fun o o' t m t' m' e=>by simp [inf] at e⟩
 have hv:VRs (fun _=>(⟨0,0,0⟩:Loc)) [] [.agg (cl x),.agg (cl y)] [.agg (enc x).toArray,.agg (enc y).toArray]:=
  VRs.cons (by simp only [VR];exact ⟨_,rfl,hec _ _ _,hcl _⟩) (VRs.cons (by simp only [VR];exact ⟨_,rfl,hec _ _ _,hcl _⟩) VRs.nil)
 refine Calls.mono (hsat _ W _ hrel hv) ?_
 rintro e w' ⟨v,μ',rfl,t,hvx⟩
 simp only [VR] at hvx
 subst hvx
 refine ⟨rfl,zmV W w' t.keep.os t.keep.tape t.keep.output t.keep.size (fun k hk=>t.keep.block k hk ?_) t.keep.drawn⟩
 rintro ⟨o,t,m,e,_⟩
 simp [inf] at e
theorem zBf {f g:Nat} {k:Nat} {enc: α →List Value} {cl: α →List AVal} {srt:Array α →Array α} (k0:0<k) (hk:∀x,(cl x).length=k) (hec:∀x (μ :Mu) (h:H),VRs μ h (cl x) (enc x)) (hcl:∀x,(cl x).all AVal.isCell=true)
  (hdet:∀x (μ :Mu) (h:H) (i:Nat) v d,(cl x)[i]? = some v→VR μ h v d→(enc x)[i]? = some d) (hss:∀d,(srt d).size=d.size)
  (hcall:∀(a:Array Value) (w:World),(callFunc f a).run P w = .ok (.enter f a) w)
  (hcon:∀(blk off cap:Nat) (d:Array α) (w:World),HoldsK enc k w blk off d→blk<w.heap.size→d.size<4611686018427387904→Calls P f #[.slice (some ⟨blk,off,none⟩) d.size cap,.func (.func g) #[] #[]] w fun e w'=>e = .returned (.tuple #[])∧∃n os,w'=sortWorldK enc k w blk off n (srt d) os)
  (hnone:∀(p:Option Addr) (cap:Nat) (fv:Value) (w:World),Calls P f #[.slice p 0 cap,fv] w fun e w'=>e = .returned (.tuple #[])∧w'=w)
  {h:H} {s:Sl} {ts:List α} (ho:Ow h s k (ts.map cl).flatten) (hl:ts.length<4611686018427387904):
  callV (Sat P) f [.sl s,.func g []] h fun v h'=>v = .tuple []∧Ow h' s k ((srt ts.toArray).toList.map cl).flatten∧But s.o h h'∧h'.length=h.length:=by
 have hel:∀x,(enc x).length=k:=fun x=>by rw [(hec x (fun _=>⟨0,0,0⟩) []).len,hk]
 have hslen:s.len=ts.length:=by
  have:=ho.len
  rw [ZM cl hk] at this
  exact (Nat.eq_of_mul_eq_mul_right k0 this).symm
 by_cases hz:ts.length=0
 ·have hts:ts=[]:=List.length_eq_zero_iff.1 hz
  subst hts
  have hs0:(srt (#[]:Array α)).toList=[]:=by
   have:=hss #[]
   simp at this
   simpa using this
  refine ⟨.tuple [],h,⟨hcall,fun μ w ds r hd=>?_⟩,rfl,by rw [hs0];exact ho,⟨Nat.le_refl _,fun _ _ _=>rfl⟩,rfl⟩
  simp only [VRs] at hd
  obtain ⟨d1,ds1,rfl,hv1,d2,ds2,rfl,hv2,rfl⟩:=hd
  have:∃p cap,d1 = .slice p 0 cap:=by
   simp only [VR,SR] at hv1
   split at hv1
   ·exact ⟨_,_,hv1.2⟩
   ·obtain ⟨_,_,a,cap,e,_⟩:=hv1
    rw [hslen] at e
    exact ⟨_,_,e⟩
  obtain ⟨p,cap,rfl⟩:=this
  refine Calls.mono (hnone p cap d2 w) ?_
  rintro e w' ⟨rfl,rfl⟩
  exact ⟨_,μ,rfl,Tr.refl r,by simp only [VR];exact ⟨#[],rfl,VRs.nil⟩⟩
 ·obtain ⟨a,b⟩ | ⟨o,hso,hsz,hoff,hn,hob⟩:=ho.at_
  ·omega
  have hol:o<h.length:=(List.getElem?_eq_some_iff.1 hob).1
  have hlen2:((srt ts.toArray).toList.map cl).flatten.length=s.n:=by
   rw [ZM cl hk,Array.length_toList,hss,hn,hslen];simp
  have hlen1:(ts.map cl).flatten.length=s.n:=by rw [ZM cl hk,hn,hslen]
  refine ⟨.tuple [],h.set o (.own ((srt ts.toArray).toList.map cl).flatten),⟨hcall,fun μ w ds r hd=>?_⟩,rfl,⟨by rw [hlen2,hn],.inr ⟨o,hso,hsz,hoff,hn,by simp [hol]⟩⟩,⟨by simp,fun i hi hne=>by rw [List.getElem?_set,if_neg (fun e=>hne (by rw [hso,e]))]⟩,by simp⟩
  simp only [VRs] at hd
  obtain ⟨d1,ds1,rfl,hv1,d2,ds2,rfl,hv2,rfl⟩:=hd
  have hv2':=hv2
  simp only [VR] at hv2'
  obtain ⟨cap2,rfl,hc2⟩:=hv2'
  simp only [VRs] at hc2
  obtain rfl:cap2 = #[]:=by simpa using hc2
  simp only [VR,SR,hso] at hv1
  obtain ⟨hin,hz0,a,cap,rfl,hcap,hall⟩:=hv1
  have hio:inf h o=some (0,s.n):=by unfold inf;rw [hob];simp only;rw [hlen1]
  obtain ⟨_,hfin⟩:=hall 0 s.n hio
  obtain ⟨q1,q2,q3,q4⟩:=hfin rfl
  have ha:a=zx (μ o) s.off:=by
   rcases q3 with q | q | q
   ·omega
   ·omega
   ·exact q
  rw [hoff] at ha
  subst ha
  obtain ⟨g1,g2,g3,g4⟩:=r.own o _ hob
  have hd0:ts.toArray.size=s.len:=by simp [hslen]
  have hH:HoldsK enc k w (μ o).b (μ o).off ts.toArray:=by
   intro j hj
   have hj':j<ts.length*k:=by simpa using hj
   have hjk:j/k<ts.length:=(Nat.div_lt_iff_lt_mul k0).2 hj'
   have hmk:j%k<k:=Nat.mod_lt _ k0
   obtain ⟨v,hv⟩:∃v,(cl (ts[j/k]'hjk))[j%k]? = some v:=⟨_,List.getElem?_eq_getElem (by rw [hk];exact hmk)⟩
   have hcs:(ts.map cl).flatten[j]? = some v:=by rw [zcz cl hk k0,List.getElem?_eq_getElem hjk];exact hv
   obtain ⟨_,d,h5,h6⟩:=g4 j v hcs
   have hed:=hdet _ _ _ _ _ _ hv h6
   have hfl:(flatK enc k ts.toArray)[j]! = d:=by
    rw [get_flatK enc k _ j (by simpa using hj')]
    have:ts.toArray[j/k]! = ts[j/k]'hjk:=by simp [hjk]
    rw [this]
    rw [List.getElem!_eq_getElem?_getD,hed];rfl
   refine ⟨?_,(g3 j (by rw [hlen1] at g2;rw [hn,hslen] at g2;omega)).2⟩
   rw [hfl]
   exact h5
  have hcc:=hcon (μ o).b (μ o).off cap ts.toArray w hH g1 (by simpa using hl)
  have hargs:(#[.slice (some (zx (μ o) 0)) s.len cap,.func (.func g) #[] #[]]:Array Value) = #[.slice (some ⟨(μ o).b,(μ o).off,none⟩) ts.toArray.size cap,.func (.func g) #[] #[]]:=by rw [hd0];rfl
  show Calls P f #[.slice (some (zx (μ o) 0)) s.len cap,.func (.func g) #[] #[]] w _
  rw [hargs]
  refine Calls.mono hcc ?_
  rintro e w' ⟨rfl,n,os,rfl⟩
  refine ⟨_,μ,rfl,?_,by simp only [VR];exact ⟨#[],rfl,VRs.nil⟩⟩
  unfold sortWorldK
  have hsz2:(srt ts.toArray).size=ts.toArray.size:=hss _
  have hH':HoldsK enc k (Sort.ahead w n) (μ o).b (μ o).off ts.toArray:=holdsK_ahead enc k w n _ _ _ hH
  have tw:Tr μ h w μ (h.set o (.own ((srt ts.toArray).toList.map cl).flatten)) (putRowK enc k (Sort.ahead w n) (μ o).b (μ o).off (srt ts.toArray)):=by
   refine Tr.wrote r hob (by rw [hlen2,hlen1]) rfl rfl ⟨rfl,Nat.le_add_right _ _⟩ (by rw [putRowK,size_putRow];rfl) (fun j hj=>?_) ?_ (fun i hi=>?_) fun i v hv=>?_
   ·show (Array.modify _ _ _)[j]? = _
    rw [Array.getElem?_modify,if_neg (fun e=>hj e.symm)];rfl
   ·rw [List.all_flatten,List.all_map]
    rw [List.all_eq_true]
    intro x _
    exact hcl x
   ·have hi':=g3 i hi
    refine ⟨?_,by rw [putRowK,frozen?_putRow];exact hi'.2⟩
    by_cases hlt:i<(flatK enc k (srt ts.toArray)).size
    ·have:=cell?_putRow id (Sort.ahead w n) (μ o).b (μ o).off _ (flatK enc k (srt ts.toArray)) hH' (by simp [hsz2]) i hlt
     show (World.cell? (putRow id (Sort.ahead w n) (μ o).b (μ o).off (flatK enc k (srt ts.toArray))) ⟨(μ o).b,(μ o).off+i,none⟩).isSome=true
     rw [this];rfl
    ·have:=cell?_putRow_other id (Sort.ahead w n) (μ o).b (μ o).off (flatK enc k (srt ts.toArray)) (zx (μ o) i) (.inr (.inr (by show _≤(μ o).off+i;omega)))
     rw [putRowK,this];exact hi'.1
   ·have hvi:=hv
    rw [zcz cl hk k0] at hv
    cases hq:(srt ts.toArray).toList[i/k]? with
    | none=>rw [hq] at hv;cases hv
    | some x=>
     rw [hq] at hv
     have hv:(cl x)[i%k]? = some v:=hv
     obtain ⟨d,hd1,hd2⟩:=(hec x μ h).get hv
     have hik:i/k<(srt ts.toArray).size:=by have:=(List.getElem?_eq_some_iff.1 hq).1;simpa using this
     have hlt:i<(srt ts.toArray).size*k:=(Nat.div_lt_iff_lt_mul k0).1 hik
     refine ⟨d,?_,hd2⟩
     have:=cell?_putRow id (Sort.ahead w n) (μ o).b (μ o).off _ (flatK enc k (srt ts.toArray)) hH' (by simp [hsz2]) i (by simpa using hlt)
     show World.cell? (putRow id (Sort.ahead w n) (μ o).b (μ o).off (flatK enc k (srt ts.toArray))) ⟨(μ o).b,(μ o).off+i,none⟩=some d
     rw [this]
     congr 1
     show (flatK enc k (srt ts.toArray))[i]! = d
     rw [get_flatK enc k _ i hlt]
     have hx:(srt ts.toArray)[i/k]! = x:=by
      rw [Array.getElem?_toList] at hq
      simp [hq,getElem!_def]
     rw [hx,List.getElem!_eq_getElem?_getD,hd1];rfl
  exact tw.trans (Tr.grown tw.rel os)
end
end Go.Proofs.YtlcgclmobfdbcaaGreat.Cl
set_option linter.unusedVariables false
set_option linter.unusedSimpArgs false
namespace Go.Proofs.YtlcgclmobfdbcaaGreat.Cl
open Go
def pc (e:Int×Int):List AVal:=[i64 e.1,i64 e.2]
def pcs (R:List (Int×Int)):List AVal:=(R.map pc).flatten
theorem zqS:∀R:List (Int×Int),(pcs R).length=R.length*2
 | []=>rfl
 | t::ts=>by
  have:=zqS ts
  unfold pcs at *
  simp only [List.map_cons,List.flatten_cons,List.length_append,List.length_cons]
  simp only [pc,List.length_cons,List.length_nil]
  omega
theorem zlx (a:Int×Int) (b:List (Int×Int)):pcs (a::b)=pc a++pcs b:=by simp [pcs]
theorem zEN:∀(ts:List (Int×Int)) (i:Nat) (t:Int×Int),ts[i]? = some t→((pcs ts).drop (i*2)).take 2=pc t
 | [],i,t,e=>by simp at e
 | a::ts,0,t,e=>by
  simp at e;subst e
  rw [zlx];simp [List.take_append,pc]
 | a::ts,i+1,t,e=>by
  rw [zlx,show (i+1)*2=(pc a).length+i*2 by simp only [pc,List.length_cons,List.length_nil];omega,←List.drop_drop,List.drop_left]
  exact zEN ts i t (by simpa using e)
theorem Rd.plen {h:H} {s:Sl} {R:List (Int×Int)} (r:Rd h s 2 (pcs R)):s.len=R.length:=by have:=r.len;rw [zqS] at this;omega
theorem Rd.ldP {h:H} {s:Sl} {R:List (Int×Int)} (r:Rd h s 2 (pcs R)) {i:Nat} (hi:i<R.length) {K:List AVal→Prop} (hk:K (pc R[i])):ixS s 2 (i:Int) fun p=>Cl.ldA p 2 h K:=by
 have hlen:=r.plen
 refine r.ldA (by omega) (by omega) ?_
 rw [zEN R _ _ (List.getElem?_eq_getElem (by simpa using hi))]
 exact hk
theorem XH {h:H} {s:Sl} {l:List Tile} {t:Tile} (r:Ow h s 4 (tcs l)) (hl:(l.length:Int)+1≤lim) {K:Sl→H→Prop}
  (hk:∀s' h',Ow h' s' 4 (tcs (l++[t]))→But s.o h h'→(∀o,s'.o=some o→s.o=some o∨h.length≤o)→h.length≤h'.length→K s' h'):newS 1 4 (tc t) h fun x h1=>app s x 4 h1 K:=by
 refine zj (by rfl) fun x h1 ot tl to e1=>?_
 have e1':Ext h h1:=by rw [e1];exact Ext.app _ _
 have hln:=e1'.len
 have hsl:=r.rd.tlen
 refine yk (by omega) (r.ext e1') ot.rd (by rw [tl,hsl];exact_mod_cast hl) fun s' h' o' ln b k1 k2=>hk s' h' (by rw [Ya];simpa [tcs] using o') ((e1'.but _).trans b) (fun o e=>?_) (Nat.le_trans hln b.1)
 cases hq:s.o with
 | none=>have:=k2 hq o e;exact .inr (by omega)
 | some p=>rw [k1 p hq] at e;exact .inl e
theorem Fr.push {n:Nat} {s s':Sl} {h:H} (f:Fr n s) (hn:n≤h.length) (hs:∀o,s'.o=some o→s.o=some o∨h.length≤o):Fr n s':=fun o e=>by
 rcases hs o e with h1 | h1
 ·exact f o h1
 ·omega
section
variable {h0:H} {s t:Sl} {S T:List Tile}
end
end Go.Proofs.YtlcgclmobfdbcaaGreat.Cl
set_option linter.unusedVariables false
set_option linter.unusedSimpArgs false
namespace Go.Proofs.YtlcgclmobfdbcaaGreat.Cl
open Go
structure STO {α :Type} (lt: α → α →Prop):Prop where
 irr:∀a,¬lt a a
 trans:∀a b c,lt a b→lt b c→lt a c
 tri:∀a b,a≠b→lt a b∨lt b a
theorem STO.asym {α :Type} {lt: α → α →Prop} (o:STO lt) {a b: α} (h:lt a b):¬lt b a:=fun h2=>o.irr a (o.trans _ _ _ h h2)
theorem zaX {α :Type} {lt: α → α →Prop} (o:STO lt):∀{l m:List α},l.Pairwise lt→m.Pairwise lt→(∀x,x∈l↔x∈m)→l=m
 | [],[],_,_,_=>rfl
 | [],b::m,_,_,h=>by have:=(h b).2 (by simp);cases this
 | a::l,[],_,_,h=>by have:=(h a).1 (by simp);cases this
 | a::l,b::m,hl,hm,h=>by
  have h1:=List.pairwise_cons.1 hl
  have h2:=List.pairwise_cons.1 hm
  have hab:a=b:=Classical.byContradiction fun hne=>by
   rcases o.tri a b hne with h3 | h3
   ·have:=(h a).1 (by simp)
    rcases List.mem_cons.1 this with h4 | h4
    ·exact hne h4
    ·exact o.asym h3 (h2.1 a h4)
   ·have:=(h b).2 (by simp)
    rcases List.mem_cons.1 this with h4 | h4
    ·exact hne h4.symm
    ·exact o.asym h3 (h1.1 b h4)
  subst hab
  congr 1
  refine zaX o h1.2 h2.2 fun x=>⟨fun hx=>?_,fun hx=>?_⟩
  ·rcases List.mem_cons.1 ((h x).1 (by simp [hx])) with h4 | h4
   ·subst h4;exact absurd (h1.1 x hx) (o.irr x)
   ·exact h4
  ·rcases List.mem_cons.1 ((h x).2 (by simp [hx])) with h4 | h4
   ·subst h4;exact absurd (h2.1 x hx) (o.irr x)
   ·exact h4
open Classical in
noncomputable def insD {α :Type} (lt: α → α →Prop) (x: α):List α →List α
 | []=>[x]
 | y::l=>if x=y then y::l else if lt x y then x::y::l else y::insD lt x l
theorem mem_insD {α :Type} {lt: α → α →Prop} {x z: α}:∀{l:List α},z∈insD lt x l↔z=x∨z∈l
 | []=>by simp [insD]
 | y::l=>by
  unfold insD
  split
  ·next h=>subst h;simp
  ·split
   ·simp
   ·simp only [List.mem_cons,mem_insD (l:=l)]
    constructor
    ·rintro (h | h | h)
     ·exact .inr (.inl h)
     ·exact .inl h
     ·exact .inr (.inr h)
    ·rintro (h | h | h)
     ·exact .inr (.inl h)
     ·exact .inl h
     ·exact .inr (.inr h)
theorem zqJ {α :Type} {lt: α → α →Prop} (o:STO lt) {x: α}:∀{l:List α},l.Pairwise lt→(insD lt x l).Pairwise lt
 | [],_=>by simp [insD]
 | y::l,h=>by
  have h1:=List.pairwise_cons.1 h
  unfold insD
  split
  ·exact h
  ·next hne=>
   split
   ·next hlt=>
    refine List.pairwise_cons.2 ⟨fun z hz=>?_,h⟩
    rcases List.mem_cons.1 hz with rfl | hz
    ·exact hlt
    ·exact o.trans _ _ _ hlt (h1.1 z hz)
   ·next hnl=>
    refine List.pairwise_cons.2 ⟨fun z hz=>?_,zqJ o h1.2⟩
    rcases mem_insD.1 hz with rfl | hz
    ·exact (o.tri _ _ hne).resolve_left hnl
    ·exact h1.1 z hz
noncomputable def Qu {α :Type} (lt: α → α →Prop) (l:List α):List α :=l.foldr (insD lt) []
theorem mem_dsort {α :Type} {lt: α → α →Prop} {z: α}:∀{l:List α},z∈Qu lt l↔z∈l
 | []=>by simp [Qu]
 | x::l=>by
  show z∈insD lt x (Qu lt l)↔_
  rw [mem_insD,mem_dsort,List.mem_cons]
theorem qm {α :Type} {lt: α → α →Prop} (o:STO lt):∀(l:List α),(Qu lt l).Pairwise lt
 | []=>by simp [Qu]
 | x::l=>zqJ o (qm o l)
theorem zmN {α :Type} {lt: α → α →Prop} (o:STO lt) {l m:List α} (hm:m.Pairwise lt) (h:∀x,x∈m↔x∈l):m=Qu lt l:=
 zaX o hm (qm o l) fun x=>by rw [h,mem_dsort]
theorem zlJ {α :Type} {lt: α → α →Prop} {x: α}:∀{l:List α},(insD lt x l).length≤l.length+1
 | []=>by simp [insD]
 | y::l=>by
  have:=zlJ (lt:=lt) (x:=x) (l:=l)
  unfold insD
  split
  ·omega
  ·split <;> simp <;> omega
theorem zit {α :Type} {lt: α → α →Prop}:∀(l:List α),(Qu lt l).length≤l.length
 | []=>by simp [Qu]
 | x::l=>by
  have:=zit (lt:=lt) l
  have:=zlJ (lt:=lt) (x:=x) (l:=Qu lt l)
  show (insD lt x (Qu lt l)).length≤_
  simp only [List.length_cons];omega
def ltL (l m:List Int):Prop:=cmpL l m<0
theorem cmpL_anti':∀a b,cmpL b a = - cmpL a b
 | [],[]=>rfl
 | [],_::_=>rfl
 | _::_,[]=>rfl
 | a::l,b::m=>by
  have:=cmpL_anti' l m
  simp only [cmpL]
  by_cases h1:a<b
  ·rw [if_neg (by omega),if_pos (show b>a from h1),if_pos h1];rfl
  ·by_cases h2:b<a
   ·rw [if_pos h2,if_neg h1,if_pos (show a>b from h2)]
   ·rw [if_neg h2,if_neg (show ¬b>a from h1),if_neg h1,if_neg (show ¬a>b from h2),this]
theorem ziC:∀a b,cmpL a b=0→a=b
 | [],[],_=>rfl
 | [],_::_,h=>by simp [cmpL] at h
 | _::_,[],h=>by simp [cmpL] at h
 | a::l,b::m,h=>by
  simp only [cmpL] at h
  split at h
  ·cases h
  ·split at h
   ·cases h
   ·rw [ziC l m h,show a=b by omega]
theorem cmpL_self':∀a,cmpL a a=0
 | []=>rfl
 | a::l=>by simp only [cmpL];rw [if_neg (by omega),if_neg (by omega),cmpL_self' l]
theorem zha:∀a b c,ltL a b→ltL b c→ltL a c
 | [],[],_,h,_=>by simp [ltL,cmpL] at h
 | [],_::_,[],_,h=>by simp [ltL,cmpL] at h
 | [],_::_,_::_,_,_=>by simp [ltL,cmpL]
 | _::_,[],_,h,_=>by simp [ltL,cmpL] at h
 | _::_,_::_,[],_,h=>by simp [ltL,cmpL] at h
 | a::l,b::m,c::n,h1,h2=>by
  have ih:=zha l m n
  unfold ltL at *
  simp only [cmpL] at h1 h2 ⊢
  by_cases e1:a<b
  ·by_cases e2:b<c
   ·rw [if_pos (by omega)];decide
   ·rw [if_neg e2] at h2
    by_cases e3:b>c
    ·rw [if_pos e3] at h2;omega
    ·rw [if_pos (by omega)];decide
  ·rw [if_neg e1] at h1
   by_cases e3:a>b
   ·rw [if_pos e3] at h1;omega
   ·rw [if_neg e3] at h1
    by_cases e2:b<c
    ·rw [if_pos (by omega)];decide
    ·rw [if_neg e2] at h2
     by_cases e4:b>c
     ·rw [if_pos e4] at h2;omega
     ·rw [if_neg e4] at h2
      rw [if_neg (by omega),if_neg (by omega)]
      exact ih h1 h2
theorem ltL_sto:STO ltL:=⟨fun a h=>by unfold ltL at h;rw [cmpL_self'] at h;omega,zha,fun a b h=>by
 unfold ltL
 have:=cmpL_anti' a b
 have:cmpL a b≠0:=fun e=>h (ziC a b e)
 omega⟩
theorem STO.inv {α β :Type} {lt: β → β →Prop} (o:STO lt) (f: α → β) (hf:∀a b,f a=f b→a=b):STO fun a b=>lt (f a) (f b):=
 ⟨fun a=>o.irr _,fun a b c=>o.trans _ _ _,fun a b h=>o.tri _ _ fun e=>h (hf a b e)⟩
def ltT (a b:Tile):Prop:=cmpT a b<0
theorem ltT_sto:STO ltT:=ltL_sto.inv tl fun a b h=>by
 obtain ⟨a1,a2,a3,a4⟩:=a
 obtain ⟨b1,b2,b3,b4⟩:=b
 simp [tl] at h
 obtain ⟨rfl,rfl,rfl,rfl⟩:=h
 rfl
section
variable {s:Sl}
theorem ZB:∀(l:List Tile) (n:Nat),(tcs l).take (n*4)=tcs (l.take n)
 | [],n=>by simp [tcs]
 | a::l,0=>by simp [tcs]
 | a::l,n+1=>by
  rw [List.take_succ_cons,xA,xA,←ZB l n,show (n+1)*4=(tc a).length+n*4 by rw [qP];omega,List.take_length_add_append]
theorem zgy:∀(l:List Tile) (n:Nat),(tcs l).drop (n*4)=tcs (l.drop n)
 | [],n=>by simp [tcs]
 | a::l,0=>by simp
 | a::l,n+1=>by
  rw [List.drop_succ_cons,xA,←zgy l n,show (n+1)*4=(tc a).length+n*4 by rw [qP];omega,←List.drop_drop,List.drop_left]
theorem Ow.cutV {h:H} {A:List Tile} (r:Ow h s 4 (tcs A)) {o:Nat} (ho:s.o=some o) {lo hi:Int} (h0:0≤lo) (h1:lo≤hi) (h2:hi≤s.len) {K:Sl→Prop} (hk:K ⟨s.o,s.n,lo.toNat*4,(hi-lo).toNat,4⟩):cut s 4 lo hi h K:=by
 obtain ⟨a,_⟩ | ⟨o',a,b,c,d,e⟩:=r.at_
 ·rw [ho] at a;cases a
 ·have hc:(cells h o' s.n).isSome=true:=by unfold cells;rw [e];simp only;rw [if_pos (by rw [r.len,d])];rfl
  refine ⟨⟨h0,h1⟩,by unfold okS;rw [a];exact hc,(fun hn=>by rw [a] at hn;cases hn),fun _=>⟨b,by rw [c,d];have:hi.toNat*4≤s.len*4:=Nat.mul_le_mul_right _ (by omega);omega⟩,?_⟩
  rw [c,Nat.zero_add]
  exact hk
theorem Ow.viewT {h:H} {A:List Tile} (r:Ow h s 4 (tcs A)) {o:Nat} (ho:s.o=some o) {lo n:Nat} (hn:lo+n≤s.len):Rd h ⟨s.o,s.n,lo*4,n,4⟩ 4 (tcs ((A.drop lo).take n)):=by
 have hal:A.length=s.len:=by have:=r.rd.tlen;omega
 obtain ⟨a,_⟩ | ⟨o',a,b,c,d,e⟩:=r.at_
 ·rw [ho] at a;cases a
 ·refine ⟨by rw [xQ,List.length_take,List.length_drop];show min n (A.length-lo)*4=n*4;rw [show min n (A.length-lo)=n by omega],.inr ⟨rfl,by rw [ho];rfl,?_⟩⟩
  have hc:cells h o' s.n=some (tcs A):=by unfold cells;rw [e];simp only;rw [if_pos (by rw [r.len,d])]
  show range h s.o s.n (lo*4) (n*4)=_
  rw [a,yX hc (by rw [xQ];omega),zgy,ZB]
noncomputable def dsT (l:List Tile):List Tile:=Qu ltT l
theorem Qv (l:List Tile):(dsT l).length≤l.length:=zit l
end
section
variable {c:Int} {ts:List Tile}
theorem xm {i:Nat} (h:i<ts.length):tat ts (i:Int)=ts[i]:=Xz (by rw [Int.toNat_natCast,List.getElem?_eq_getElem h])
theorem setOK.pw (h:setOK c ts):ts.Pairwise ltT:=by
 rw [List.pairwise_iff_getElem]
 have key:∀n i j:Nat,(hi:i<ts.length)→(hj:j<ts.length)→j=i+n+1→ltT ts[i] ts[j]:=by
  intro n
  induction n with
  | zero=>
   intro i j hi hj e
   have:=(h.2.2 j hj).2 (by omega)
   rw [show ((j:Int)-1)=((i:Nat):Int) by omega,xm hi,xm hj] at this
   exact this
  | succ n ih=>
   intro i j hi hj e
   have h1:=ih i (j-1) hi (by omega) (by omega)
   have h2:=(h.2.2 j hj).2 (by omega)
   rw [show ((j:Int)-1)=((j-1:Nat):Int) by omega,xm (show j-1<ts.length by omega),xm hj] at h2
   exact ltT_sto.trans _ _ _ h1 h2
 intro i j hi hj hij
 exact key (j-i-1) i j hi hj (by omega)
theorem Xh (h1:1≤c) (h2:c≤6) (hl:ts.length≤16) (hp:ts.Pairwise ltT) (hs:∀t∈ts,∀k,k<4→0≤sd t k∧sd t k<c):setOK c ts:=by
 refine ⟨⟨h1,h2⟩,hl,fun j hj=>⟨?_,fun h0=>?_⟩⟩
 ·rw [xm hj]
  have hm:=List.getElem_mem hj
  have a0:=hs _ hm 0 (by omega)
  have a1:=hs _ hm 1 (by omega)
  have a2:=hs _ hm 2 (by omega)
  have a3:=hs _ hm 3 (by omega)
  simp only [sd] at a0 a1 a2 a3
  unfold Zx
  simp only [Bool.and_eq_true,decide_eq_true_eq]
  omega
 ·rw [show ((j:Int)-1)=((j-1:Nat):Int) by omega,xm (show j-1<ts.length by omega),xm hj]
  exact List.pairwise_iff_getElem.1 hp (j-1) j (by omega) hj (by omega)
end
theorem ix4 {h:H} {o:Nat} {t:Tile} (x:Obj h o (tc t)) (i:Nat) (hi:i<4) {K:Pt→Int→Prop} (hk:∀p,p=Pt.add ⟨some o,4,0⟩ i→K p (sd t i)):ixA ⟨some o,4,0⟩ 4 1 (i:Int) fun p=>Cl.ldI .i64 p h (K p):=by
 refine ⟨⟨by omega,by omega⟩,rfl,?_⟩
 rw [show (i:Int).toNat*1=i by omega]
 exact ⟨_,by rw [x.cellE (n:=4) rfl];exact zIe t hi,hk _ rfl⟩
theorem zAs {a b:Tile} {K:Bool→Prop} (h:K (decide (a=b))):eqA .i64 4 (tc a) (tc b) K:=by
 refine ⟨tl a,tl b,rfl,rfl,rfl,rfl,?_⟩
 have:(tl a==tl b)=decide (a=b):=by
  obtain ⟨a1,a2,a3,a4⟩:=a
  obtain ⟨b1,b2,b3,b4⟩:=b
  rw [Bool.eq_iff_iff,beq_iff_eq,decide_eq_true_eq]
  simp [tl]
 rw [this]
 exact h
end Go.Proofs.YtlcgclmobfdbcaaGreat.Cl
set_option linter.unusedVariables false
set_option linter.unusedSimpArgs false
namespace Go.Proofs
open Go.Shelf
def sortT77_ren:Go.Shelf.Ren:=⟨fun | 6=>167 | 15=>176 | 14=>175 | 28=>185 | 29=>186 | 20=>177 | 21=>178 | 22=>179 | 23=>180 | 24=>181 | 25=>182 | 26=>183 | 27=>184 | 46=>187 | 47=>188 | 48=>189 | 49=>190 | 50=>191 | 57=>192 | n=>n,fun | 22=>24 | 24=>74 | 25=>117 | 3=>3 | 39=>120 | 0=>0 | 53=>170 | 55=>101 | 4=>4 | 46=>180 | 45=>179 | 50=>184 | 5=>5 | 9=>9 | 66=>188 | 70=>192 | 76=>194 | 77=>195 | n=>n,fun | n=>n⟩
theorem zqs:Go.Proofs.SlLaysF0.n6 Tryz.prog sortT77_ren:={
 mixed:=by kernel_rfl
 f6:=⟨Tryz.f167.name,by decide,Tryz.func167.trans (congrArg some (by kernel_rfl))⟩
 f14:=⟨Tryz.f175.name,by decide,Tryz.func175.trans (congrArg some (by kernel_rfl))⟩
 f15:=Tryz.func176.trans (congrArg some (by kernel_rfl))
 f20:=⟨Tryz.f177.name,by decide,Tryz.func177.trans (congrArg some (by kernel_rfl))⟩
 f21:=⟨Tryz.f178.name,by decide,Tryz.func178.trans (congrArg some (by kernel_rfl))⟩
 f22:=⟨Tryz.f179.name,by decide,Tryz.func179.trans (congrArg some (by kernel_rfl))⟩
 f23:=⟨Tryz.f180.name,by decide,Tryz.func180.trans (congrArg some (by kernel_rfl))⟩
 f24:=⟨Tryz.f181.name,by decide,Tryz.func181.trans (congrArg some (by kernel_rfl))⟩
 f25:=⟨Tryz.f182.name,by decide,Tryz.func182.trans (congrArg some (by kernel_rfl))⟩
 f26:=⟨Tryz.f183.name,by decide,Tryz.func183.trans (congrArg some (by kernel_rfl))⟩
 f27:=⟨Tryz.f184.name,by decide,Tryz.func184.trans (congrArg some (by kernel_rfl))⟩
 f28:=Tryz.func185.trans (congrArg some (by kernel_rfl))
 f29:=Tryz.func186.trans (congrArg some (by kernel_rfl))
 f46:=⟨Tryz.f187.name,by decide,Tryz.func187.trans (congrArg some (by kernel_rfl))⟩
 f47:=Tryz.func188.trans (congrArg some (by kernel_rfl))
 f48:=Tryz.func189.trans (congrArg some (by kernel_rfl))
 f49:=⟨Tryz.f190.name,by decide,Tryz.func190.trans (congrArg some (by kernel_rfl))⟩
 f50:=⟨Tryz.f191.name,by decide,Tryz.func191.trans (congrArg some (by kernel_rfl))⟩
 f57:=⟨Tryz.f192.name,by decide,Tryz.func192.trans (congrArg some (by kernel_rfl))⟩
 t0:=Tryz.underlying0
 a0:=Tryz.isAgg0
 z0:=Tryz.sizeOf0
 v0:=Tryz.zeroValue0
 t3:=Tryz.underlying3
 a3:=Tryz.isAgg3
 z3:=Tryz.sizeOf3
 v3:=Tryz.zeroValue3
 t4:=Tryz.underlying4
 a4:=Tryz.isAgg4
 z4:=Tryz.sizeOf4
 v4:=Tryz.zeroValue4
 t5:=Tryz.underlying5
 a5:=Tryz.isAgg5
 z5:=Tryz.sizeOf5
 v5:=Tryz.zeroValue5
 t9:=Tryz.underlying9
 a9:=Tryz.isAgg9
 z9:=Tryz.sizeOf9
 v9:=Tryz.zeroValue9
 t22:=Tryz.underlying24
 a22:=Tryz.isAgg24
 z22:=Tryz.sizeOf24
 v22:=Tryz.zeroValue24
 t25:=Tryz.underlying117
 a25:=Tryz.isAgg117
 z25:=Tryz.sizeOf117
 v25:=Tryz.zeroValue117
 t39:=Tryz.underlying120
 a39:=Tryz.isAgg120
 z39:=Tryz.sizeOf120
 v39:=Tryz.zeroValue120
 t45:=Tryz.underlying179
 a45:=Tryz.isAgg179
 z45:=Tryz.sizeOf179
 v45:=Tryz.zeroValue179
 t46:=Tryz.underlying180
 a46:=Tryz.isAgg180
 z46:=Tryz.sizeOf180
 v46:=Tryz.zeroValue180
 t50:=Tryz.underlying184
 a50:=Tryz.isAgg184
 z50:=Tryz.sizeOf184
 v50:=Tryz.zeroValue184
 t53:=Tryz.underlying170
 a53:=Tryz.isAgg170
 z53:=Tryz.sizeOf170
 v53:=Tryz.zeroValue170
 t55:=Tryz.underlying101
 a55:=Tryz.isAgg101
 z55:=Tryz.sizeOf101
 v55:=Tryz.zeroValue101
 t66:=Tryz.underlying188
 a66:=Tryz.isAgg188
 z66:=Tryz.sizeOf188
 v66:=Tryz.zeroValue188
 t70:=Tryz.underlying192
 a70:=Tryz.isAgg192
 z70:=Tryz.sizeOf192
 v70:=Tryz.zeroValue192
 t76:=Tryz.underlying194
 a76:=Tryz.isAgg194
 z76:=Tryz.sizeOf194
 v76:=Tryz.zeroValue194
 t77:=Tryz.underlying195
 a77:=Tryz.isAgg195
 z77:=Tryz.sizeOf195
 v77:=Tryz.zeroValue195 }
end Go.Proofs
namespace Go.Proofs.YtlcgclmobfdbcaaGreat.Cl
open Go Go.Proofs Go.Shelf Go.Lib
theorem zEI {α :Type} {lt: α → α →Prop} (o:STO lt) {cf: α → α →Int} (h:∀a b,lt a b↔cf a b<0):Go.Sort.SWO (ltOf cf):=by
 have e:∀a b,ltOf cf a b=true↔lt a b:=fun a b=>by unfold ltOf;rw [decide_eq_true_eq,h]
 have e':∀a b,ltOf cf a b=false↔¬lt a b:=fun a b=>by rw [←e,Bool.not_eq_true]
 refine ⟨fun x=>(e' x x).2 (o.irr x),fun x y z h1 h2=>(e x z).2 (o.trans _ _ _ ((e _ _).1 h1) ((e _ _).1 h2)),fun x y z h1 h2=>(e' x z).2 fun h3=>?_⟩
 have h1:=(e' _ _).1 h1
 have h2:=(e' _ _).1 h2
 by_cases hxy:x=y
 ·subst hxy;exact h2 h3
 ·have hyx:=(o.tri x y hxy).resolve_left h1
  exact h2 (o.trans _ _ _ hyx h3)
theorem zAV {α :Type} {lt: α → α →Prop} (o:STO lt) {cf: α → α →Int} (h:∀a b,lt a b↔cf a b<0):∀x y,ltOf cf x y=false→ltOf cf y x=false→x=y:=fun x y h1 h2=>Classical.byContradiction fun hne=>by
 unfold ltOf at h1 h2
 rw [decide_eq_false_iff_not,←h] at h1 h2
 rcases o.tri x y hne with h3 | h3
 ·exact h1 h3
 ·exact h2 h3
def zgD {α :Type} (cf: α → α →Int) (d:Array α):Array α :=(d.toList.mergeSort fun x y=> !(ltOf cf) y x).toArray
theorem zmX {α :Type} (cf: α → α →Int) (d:Array α):(zgD cf d).size=d.size:=by simp [zgD]
theorem zmY {α :Type} (cf: α → α →Int) (l:List α):(zgD cf l.toArray).toList.Perm l:=by simpa [zgD] using List.mergeSort_perm l _
theorem zgC {α :Type} {lt: α → α →Prop} (o:STO lt) {cf: α → α →Int} (h:∀a b,lt a b↔cf a b<0) (l:List α):(zgD cf l.toArray).toList.Pairwise fun a b=>¬lt b a:=by
 have sw:=zEI o h
 have:=List.pairwise_mergeSort (le:=fun x y=> !(ltOf cf) y x) (fun a b c h1 h2=>by
  simp only [Bool.not_eq_true'] at *
  exact sw.ntrans _ _ _ h2 h1) (fun a b=>by
  rw [Bool.or_eq_true,Bool.not_eq_true',Bool.not_eq_true']
  by_cases h1:ltOf cf b a=true
  ·right
   rw [←Bool.not_eq_true]
   intro h2
   have:=sw.trans _ _ _ h1 h2
   rw [sw.irrefl] at this;cases this
  ·left;simpa using h1) l
 have e:(zgD cf l.toArray).toList=l.mergeSort fun x y=> !(ltOf cf) y x:=by simp [zgD]
 rw [e]
 refine this.imp fun {a b} h1 h2=>?_
 simp only [Bool.not_eq_true'] at h1
 unfold ltOf at h1
 rw [decide_eq_false_iff_not,←h] at h1
 exact h1 h2
def encT (t:Tile):List Value:=[.int .i64 t.1,.int .i64 t.2.1,.int .i64 t.2.2.1,.int .i64 t.2.2.2]
theorem zNG:∀w,(isAgg 74).run Tryz.prog w = .ok true w:=fun w=>by kernel_rfl
theorem zNr:∀w,(Go.sizeOf 74).run Tryz.prog w = .ok 4 w:=fun w=>by kernel_rfl
theorem zBH {l:List Int} {μ :Mu} {h:H} {i:Nat} {v:AVal} {d:Value} (e:(l.map (AVal.int .i64))[i]? = some v) (hv:VR μ h v d):(l.map (Value.int .i64))[i]? = some d:=by
 rw [List.getElem?_map] at e ⊢
 cases hq:l[i]? with
 | none=>rw [hq] at e;cases e
 | some x=>
  rw [hq] at e
  simp only [Option.map_some,Option.some.injEq] at e ⊢
  subst e
  simp only [VR] at hv
  exact hv.symm
theorem zcw:∀(l:List Int) (μ :Mu) (h:H),VRs μ h (l.map (AVal.int .i64)) (l.map (Value.int .i64))
 | [],μ,h=>VRs.nil
 | a::l,μ,h=>VRs.cons (by simp only [VR]) (zcw l μ h)
theorem zqj (t:Tile):tc t=(tl t).map (AVal.int .i64):=rfl
theorem zgm (t:Tile):encT t=(tl t).map (Value.int .i64):=rfl
theorem zra (a b:Tile):ltT a b↔cmpT a b<0:=Iff.rfl
theorem zIi {h:H} {s:Sl} {l:List Tile} (o:Ow h s 4 (tcs l)) (hl:l.length≤1000000000):
  callV SP zhi [.sl s,.func qV []] h fun v h'=>v = .tuple []∧∃l',Ow h' s 4 (tcs l')∧l'.Perm l∧l'.Pairwise (fun a b=>¬ltT b a)∧But s.o h h'∧h'.length=h.length:=by
 have hcmp:∀x y,∃h2,Sat Tryz.prog qV [.agg (tc x),.agg (tc y)] [] (.int .i64 (cmpT x y)) h2:=fun x y=>by
  obtain ⟨n,h2,hs,rfl,_⟩:=ziA x y []
  exact ⟨h2,hs⟩
 have hc:∀(a:Array Value) (w:World),(callFunc zhi a).run Tryz.prog w = .ok (.enter zhi a) w:=zd (fn:=Tryz.f167) (c:=za Tryz.f167) (by kernel_rfl) (by kernel_rfl) (by kernel_rfl)
 have hcc:∀(a:Array Value) (w:World),(callFunc qV a).run Tryz.prog w = .ok (.enter qV a) w:=zd (fn:=Tryz.f116) (c:=za Tryz.f116) (by kernel_rfl) (by kernel_rfl) (by kernel_rfl)
 refine (zBf (P:=Tryz.prog) (f:=zhi) (g:=qV) (k:=4) (enc:=encT) (cl:=tc) (srt:=zgD cmpT) (by omega) (fun _=>rfl) (fun x μ h=>by rw [zqj,zgm];exact zcw _ _ _) (fun _=>rfl)
  (fun x μ h i v d e hv=>by rw [zqj] at e;rw [zgm];exact zBH e hv) (zmX _) hc ?_ ?_ o (by omega)).to ?_
 ·intro blk off cap d w hH hb hsz
  exact AnyQ.slices_SortFunc_total zqs 4 zNG zNr encT (fun _=>rfl) (fun x v hv=>by rw [zgm] at hv;obtain ⟨n,_,rfl⟩:=List.mem_map.1 hv;rfl) cmpT (zEI ltT_sto zra) qV #[] blk off cap d w hcc
   (zEu (fun x μ h=>by rw [zqj,zgm];exact zcw _ _ _) (fun _=>rfl) hcmp 4 blk off d.size w) hH hb hsz (zAV ltT_sto zra)
 ·intro p cap fv w
  exact AnyF.slices_SortFunc_none zqs p cap fv w
 ·rintro v h' ⟨rfl,o',b,ln⟩
  exact ⟨rfl,_,o',zmY _ _,zgC ltT_sto zra l,b,ln⟩
end Go.Proofs.YtlcgclmobfdbcaaGreat.Cl
set_option linter.unusedVariables false
set_option linter.unusedSimpArgs false
namespace Go.Proofs.YtlcgclmobfdbcaaGreat.Cl
open Go
noncomputable def XM:Code→Array Oper | .region _ o _=>o | _=> #[]
noncomputable def rfA:Code→Code | .rangeFunc _ _ a _=>a | c=>c
noncomputable def rfB:Code→Code | .rangeFunc _ _ _ b=>b | c=>c
noncomputable def opN (l : Array Oper) (i : Nat) : Oper := l.toList.getD i ⟨none, .move (.tmp 0), 0, "", #[], none⟩
noncomputable def vpT:IterP:=⟨0,11,12,13,14,8,XM (sq Tryz.f168 1 0),XM (sq Tryz.f168 4 8),XM (sq Tryz.f168 8 152),XM (sq Tryz.f168 6 39),
 opN (XM (sq Tryz.f168 9 306)) 1,[5,6,7]⟩
noncomputable def apT:AppP:=⟨7,XM (sq Tryz.f174 1 0),XM (sq Tryz.f174 3 4),XM (rfA (sq Tryz.f174 4 10)),XM (sub [0] (rfB (sq Tryz.f174 4 10))),XM (sq Tryz.f174 3 6),6⟩
def frV (s:Sl) (len i:Int):Frame:=[.undef,.undef,.undef,.undef,.undef,.sl s,i64 len,i64 i,.undef,.undef,.undef,.undef,.undef,.undef,.undef,.undef]
def frQ (s0:Sl) (g:AVal) (p:Pt):Frame:=[.sl s0,g,.ptr p,.gone,.sl Sl.nil,.gone,g,.gone,.gone,.gone,.gone,.gone,.gone]
theorem A0_k (s0:Sl) (g:AVal) (k:Frame→H→Prop) (h:H):zy SP tab apT.A0.toList apT.A0.toList k (fr0 Tryz.f174 [.sl s0,g]) h =
  newO [.sl s0] h fun p h1=>k [.sl s0,g,.ptr p,.gone,.sl Sl.nil,.gone,.gone,.gone,.gone,.gone,.gone,.gone,.gone] h1:=by kernel_rfl
theorem A1_k (s0:Sl) (g:AVal) (p:Pt) (k:Frame→H→Prop) (h:H):zy SP tab apT.A1.toList apT.A1.toList k [.sl s0,g,.ptr p,.gone,.sl Sl.nil,.gone,.gone,.gone,.gone,.gone,.gone,.gone,.gone] h=k (frQ s0 g p) h:=by kernel_rfl
theorem V0_k (ps:Pt) (k:Frame→H→Prop) (h:H):zy SP tab vpT.V0.toList vpT.V0.toList (fun fr h=>k (mask vpT.mm fr) h) (fr0 Tryz.f168 [.undef,.ptr ps]) h=ldS ps h fun s=>k (frV s s.len 0) h:=by kernel_rfl
theorem A4_k (s0:Sl) (g:AVal) (p:Pt) (K:AVal→H→Prop) (h:H):zy SP tab apT.A4.toList apT.A4.toList (fun fr h=>resK tab Tryz.f174.results.toList fr h fun vs=>K (one vs) h) (frQ s0 g p) h=ldS p h fun s=>K (.sl s) h:=by kernel_rfl
theorem L0_k (s:Sl) (s0:Sl) (g:AVal) (p:Pt) (len i:Int) (K:H→Prop) (h:H):yv SP tab vpT apT (frQ s0 g p) K 0 (frV s len i) h=(AVal.bool (decide (i<len)) = .bool false∧K h):=by kernel_rfl
theorem L1_k (s:Sl) (s0:Sl) (g:AVal) (p:Pt) (len i:Int) (n:Nat) (K:H→Prop) (h:H):yv SP tab vpT apT (frQ s0 g p) K (n+1) (frV s len i) h =
  (AVal.bool (decide (i<len)) = .bool true∧ixS s 4 i fun a=>ldA a 4 h fun cs=>newO [i64 0,i64 0,i64 0,i64 0] h fun b h1=>stN b 4 cs h1 fun h2=>ldA b 4 h2 fun c2=>
   newO [i64 0,i64 0,i64 0,i64 0] h2 fun d h3=>stN d 4 c2 h3 fun h4=>ldS p h4 fun x=>ldA d 4 h4 fun c3=>lenA c3 4 (newS 1 4 (spl [i64 0,i64 0,i64 0,i64 0] 0 4 c3) h4 fun t h5=>app x t 4 h5 fun x' h6=>st1 p (.sl x') h6 fun h7=>
    yv SP tab vpT apT (frQ s0 g p) K n (frV s len (w64 (i+1))) h7)):=by kernel_rfl
section
variable {h0:H} {s:Sl} {ts:List Tile} {ps:Nat}
theorem zgL {ob:Nat} {s0:Sl} {g:AVal} (r:Rd h0 s 4 (tcs ts)) (hl:ts.length≤1000000) (hob:h0.length≤ob) {K:H→Prop} {ha:H} (ea:Ext h0 ha):
  ∀(n i:Nat) (x:Sl) (h:H),i+n=ts.length→Ext h0 h→ob<h.length→h0.length<h.length→Var h ob (.sl x)→Ow h x 4 (tcs (ts.take i))→Fr h0.length x→x.o≠some ob→(0<i→x.o.isSome=true)→
   (∀x h,Ext h0 h→Var h ob (.sl x)→Ow h x 4 (tcs ts)→Fr h0.length x→(0<ts.length→x.o.isSome=true)→K h)→yv SP tab vpT apT (frQ s0 g (pt ob)) K n (frV s s.len i) h
 | 0,i,x,h,hi,e,hol,hln,vx,ox,fx,hx,hs,hK=>by
  have hsl:=r.tlen
  rw [L0_k]
  refine ⟨by rw [decide_eq_false (by omega)],hK x h e vx ?_ fx fun hp=>hs (by omega)⟩
  rw [show i=ts.length by omega,List.take_length] at ox
  exact ox
 | n+1,i,x,h,hi,e,hol,hln,vx,ox,fx,hx,hs,hK=>by
  have hsl:=r.tlen
  have hi':i<ts.length:=by omega
  rw [L1_k]
  refine ⟨by rw [decide_eq_true (by omega)],?_⟩
  refine (r.ext e).tileG (by omega) (by omega) ?_
  refine zo fun h1 o1 x1 l1=>?_
  refine o1.stA fun h2 o2 b2 l2=>?_
  have y2:Ext h h2:=x1.but_ b2 (zi (Nat.le_refl _))
  refine o2.ldA rfl ?_
  refine zo fun h3 o3 x3 l3=>?_
  refine o3.stA fun h4 o4 b4 l4=>?_
  have y4:Ext h2 h4:=x3.but_ b4 (zi (Nat.le_refl _))
  have y:=y2.trans y4
  refine (vx.ext y).ldS ?_
  refine o4.ldA rfl ⟨rfl,?_⟩
  refine zj (by rfl) fun t h5 ot lt to e5=>?_
  have x5:Ext h4 h5:=by rw [e5];exact Ext.app _ _
  have y5:=y.trans x5
  have hxl:=(ox.rd).tlen
  have htl:(ts.take i).length=i:=by rw [List.length_take];omega
  refine yk (by omega) (ox.ext y5) ot.rd (by rw [lt,hxl,htl];unfold lim;omega) fun x' h6 ox' lx' b6 k1 k2=>?_
  have hyl:=y5.len
  have v6:Var h6 ob (.sl x):=(vx.ext y5).but b6 hx
  have hx'o:∀o,x'.o=some o→x.o=some o∨h5.length≤o:=fun o eo=>by
   cases hq:x.o with
   | none=>exact .inr (k2 hq o eo)
   | some p=>rw [k1 p hq] at eo;exact .inl eo
  have hx':x'.o≠some ob:=fun eo=>by
   rcases hx'o ob eo with h' | h'
   ·exact hx h'
   ·omega
  refine v6.st _ fun h7 v7 b7 l7=>?_
  have e6:Ext h0 h6:=(e.trans y5).but_ b6 fun o eo=>fx o eo
  have e7:Ext h0 h7:=e6.but_ b7 (zi hob)
  have l6:=b6.1
  rw [zf (n:=(i:Int)+1) (by omega) (by omega),show (i:Int)+1=((i+1:Nat):Int) by push_cast;rfl]
  have hts:tcs (ts.take (i+1))=tcs (ts.take i)++tc (tat ts (i:Int)):=by
   rw [List.take_succ_eq_append_getElem hi',Ya]
   congr 1
   have:tat ts (i:Int)=ts[i]:=Xz (by rw [Int.toNat_natCast,List.getElem?_eq_getElem hi'])
   rw [this,xA]
   simp [tcs]
  refine zgL r hl hob ea n (i+1) x' h7 (by omega) e7 (by omega) (by omega) v7 ?_ ?_ hx' (fun _=>?_) hK
  ·rw [hts]
   exact ox'.but b7 (.inl fun eo=>hx' eo.symm)
  ·intro o eo
   rcases hx'o o eo with h' | h'
   ·exact fx o h'
   ·omega
  ·have hlen:0<x'.len:=by rw [lx',lt];omega
   obtain ⟨ha,hb⟩ | ⟨o,ha,_⟩:=ox'.at_
   ·omega
   ·rw [ha];rfl
theorem zlh (hv:Var h0 ps (.sl s)) (r:Rd h0 s 4 (tcs ts)) (hl:ts.length≤1000000):
  callS SP zrt [.sl Sl.nil,.func zbr [.ptr (pt ps)]] h0 fun u h'=>Ow h' u 4 (tcs ts)∧Fr h0.length u∧Ext h0 h'∧(0<ts.length→u.o.isSome=true):=by
 have key:=zqd (P:=Tryz.prog) (T:=tab) tok (p:=vpT) (q:=apT) (fV:=zbr) (f:=zrt) (fnv:=Tryz.f168) (fna:=Tryz.f174) (N:=ts.length)
  (V3:=XM (sq Tryz.f168 9 306)) (i0:=0) (i1:=1) (i2:=2) (i3:=3) (i4:=4) (j0:=0) (j1:=1) (j2:=2) (j3:=3) (j4:=4) (b0:=0) (b1:=1) (bb:=1) (c0:=0) (tt:=4)
  (yc:=⟨.value (.tmp 11),#[.tmp 12],#[74]⟩)
  (by kernel_rfl) (by kernel_rfl) (by kernel_rfl) (by kernel_rfl) (by kernel_rfl) rfl rfl (by decide) ?_ rfl ?_ (by kernel_rfl) (by kernel_rfl) (zd (fn:=Tryz.f174) (c:=za Tryz.f174) (by kernel_rfl) (by kernel_rfl) (by kernel_rfl)) (zd (fn:=Tryz.f168) (c:=za Tryz.f168) (by kernel_rfl) (by kernel_rfl) (by kernel_rfl))
  (args:=[.sl Sl.nil,.func zbr [.ptr (pt ps)]]) (h:=h0) (K:=fun v h'=>∃u,v = .sl u∧Ow h' u 4 (tcs ts)∧Fr h0.length u∧Ext h0 h'∧(0<ts.length→u.o.isSome=true)) ?_ ?_
 ·obtain ⟨v,h2,hs,u,rfl,hk⟩:=key
  exact ⟨u,h2,hs,hk⟩
 ·have e0:vpT.V0.toList.map (·.dst)=[some 5,some 6,some 7]:=by kernel_rfl
  have e1:vpT.V1.toList.map (·.dst)=[some 8]:=by kernel_rfl
  have e2:vpT.V2.toList.map (·.dst)=[some 9,some 10,some 4,none]:=by kernel_rfl
  have e4:vpT.V4.toList.map (·.dst)=[some 15,some 7]:=by kernel_rfl
  intro V hV o ho d hd e
  have hm:o.dst∈V.toList.map (·.dst):=List.mem_map_of_mem ho
  simp only [List.mem_cons,List.not_mem_nil,or_false] at hV
  simp only [vpT,List.mem_cons,List.not_mem_nil,or_false] at hd
  rcases hV with rfl | rfl | rfl | rfl
  ·rw [e0,e] at hm;simp at hm;omega
  ·rw [e1,e] at hm;simp at hm;omega
  ·rw [e2,e] at hm;simp at hm;omega
  ·rw [e4,e] at hm;simp at hm;omega
 ·have hn:Tryz.f168.ntmps=16:=by kernel_rfl
  intro d hd
  simp only [vpT,List.mem_cons,List.not_mem_nil,or_false] at hd
  omega
 ·have hn:Tryz.f168.ntmps=16:=by kernel_rfl
  omega
 ·unfold zlt
  rw [A0_k]
  refine yQ fun h1 v1 x1 l1=>?_
  rw [A1_k]
  refine ⟨_,⟨rfl,rfl⟩,?_⟩
  rw [V0_k]
  refine (hv.ext x1).ldS ?_
  refine zgL r hl (Nat.le_refl _) x1 ts.length 0 Sl.nil h1 (by omega) x1 (by omega) (by omega) v1 (by simpa [tcs] using Ow.nil _ _) (Fr.nil _) (by simp [Sl.nil]) (fun h=>by omega) fun x h e vx ox fx hs=>?_
  refine (A4_k Sl.nil _ _ (fun v h'=>∃u,v = .sl u∧Ow h' u 4 (tcs ts)∧Fr h0.length u∧Ext h0 h'∧(0<ts.length→u.o.isSome=true)) h).mpr ?_
  exact vx.ldS ⟨x,rfl,ox,fx,e,hs⟩
end
end Go.Proofs.YtlcgclmobfdbcaaGreat.Cl
