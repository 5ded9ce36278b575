/- Contracts of functions, joined. No claim is stated here. -/
import Derived.Test.YtlcgclmobfdbcaaGreatFb0
import Derived.Test.YtlcgclmobfdbcaaGreatFT
set_option linter.unusedVariables false
set_option linter.unusedSimpArgs false
namespace Go.Proofs.YtlcgclmobfdbcaaGreat.Cl
open Go
def sd (t:Tile):Nat→Int | 0=>t.1 | 1=>t.2.1 | 2=>t.2.2.1 | _=>t.2.2.2
def tat (ts:List Tile) (n:Int):Tile:=ts.getD n.toNat (0,0,0,0)
theorem Xz {ts:List Tile} {n:Int} {t:Tile} (h:ts[n.toNat]? = some t):tat ts n=t:=by unfold tat;rw [List.getD_eq_getElem?_getD,h];rfl
theorem zAF {ts:List Tile} {n:Int} (h1:n.toNat<ts.length):ts[n.toNat]? = some (tat ts n):=by unfold tat;rw [List.getD_eq_getElem?_getD,List.getElem?_eq_getElem h1];rfl
theorem zIe (t:Tile) {k:Nat} (hk:k<4):(tc t)[k]? = some (i64 (sd t k)):=by
 match k with
 | 0=>rfl
 | 1=>rfl
 | 2=>rfl
 | 3=>rfl
theorem Rd.sideG {h:H} {s:Sl} {ts:List Tile} (r:Rd h s 4 (tcs ts)) {n k:Int} (h0:0≤n) (h1:n<ts.length) (k0:0≤k) (k1:k<4) {K:Int→Prop} (hk:K (sd (tat ts n) k.toNat)):ixS s 4 n fun p=>ixA p 4 1 k fun q=>Cl.ldI .i64 q h K:=by
 have hl:=r.tlen
 refine r.ix h0 (by omega) fun p po pr=>⟨⟨k0,by omega⟩,po,_,?_,hk⟩
 have:=zU pr (i:=k.toNat) (by omega)
 rw [Pt.add,Nat.mul_one,this,zgz ts n.toNat _ (zAF (by omega)),zIe _ (by omega)]
theorem Rd.tileG {h:H} {s:Sl} {ts:List Tile} (r:Rd h s 4 (tcs ts)) {n:Int} (h0:0≤n) (h1:n<ts.length) {K:List AVal→Prop} (hk:K (tc (tat ts n))):ixS s 4 n fun p=>Cl.ldA p 4 h K:=
 r.ldT h0 h1 fun t ht=>by rw [←Xz ht];exact hk
theorem Rd.ldG {h:H} {s:Sl} {l:List Int} (r:Rd h s 1 (ic l)) {i:Int} (h0:0≤i) (h1:i<l.length) {K:Int→Prop} (hk:K (l.getD i.toNat 0)):ixS s 1 i fun p=>Cl.ldI .i64 p h K:=
 r.ldI h0 h1 fun x hx=>by rw [List.getD_eq_getElem?_getD,hx] at hk;exact hk
theorem Rd.ixC {h:H} {s:Sl} {l:List Int} (r:Rd h s 1 (ic l)) {i:Int} (h0:0≤i) (h1:i<l.length) {K:Pt→Prop} (hk:∀p:Pt,cell h p=some (i64 (l.getD i.toNat 0))→K p):ixS s 1 i K:=by
 have hlen:=r.ilen
 obtain hl | ⟨a,b,c⟩:=r.at_
 ·omega
 ·refine ⟨⟨h0,by omega⟩,a,b,hk _ ?_⟩
  have:=zU c (i:=i.toNat) (by omega)
  rw [Nat.mul_one,this]
  unfold ic
  rw [List.getElem?_map,List.getElem?_eq_getElem (by omega),List.getD_eq_getElem?_getD,List.getElem?_eq_getElem (by omega)]
  rfl
theorem Rd.ixT {h:H} {s:Sl} {ts:List Tile} (r:Rd h s 4 (tcs ts)) {n:Int} (h0:0≤n) (h1:n<ts.length) {K:Pt→Prop} (hk:∀p:Pt,p.o.isSome=true→range h p.o p.n p.off 4=some (tc (tat ts n))→K p):ixS s 4 n K:=by
 have hl:=r.tlen
 refine r.ix h0 (by omega) fun p po pr=>hk p po ?_
 rw [pr,zgz ts n.toNat _ (zAF (by omega))]
theorem Ext.rangeE {h h':H} (x:Ext h h') {o n off k cs} (e:Cl.range h o n off k=some cs):Cl.range h' o n off k=Cl.range h o n off k:=by rw [x.range e,e]
theorem Obj.sdI {h:H} {o:Nat} {t:Tile} (x:Obj h o (tc t)) {k:Int} (k0:0≤k) (k1:k<4) {K:Int→Prop} (hk:K (sd t k.toNat)):ixA ⟨some o,4,0⟩ 4 1 k fun p=>Cl.ldI .i64 p h K:=
 Wb x rfl k0 (by omega) (zIe t (by omega)) hk
def rw_ (rows:List (List Int)) (y:Nat):List Int:=rows.getD y []
def G (rows:List (List Int)) (y x:Nat):Int:=(rw_ rows y).getD x 0
theorem zNt {rows:List (List Int)} {y:Nat} {l:List Int} (h:rows[y]? = some l):rw_ rows y=l:=by unfold rw_;rw [List.getD_eq_getElem?_getD,h];rfl
theorem zLw {rows:List (List Int)} {y:Nat} (h:y<rows.length):rows[y]? = some (rw_ rows y):=by unfold rw_;rw [List.getD_eq_getElem?_getD,List.getElem?_eq_getElem h];rfl
theorem RdSS.ldG {h s ls} (r:RdSS h s ls) {i:Int} (h0:0≤i) (h1:i<ls.length) {K:Sl→Prop} (hk:∀v,Rd h v 1 (ic (rw_ ls i.toNat))→v.len=(rw_ ls i.toNat).length→K v):ixS s 1 i fun p=>Cl.ldS p h K:=
 r.ld h0 h1 fun v l hv rv lv=>by rw [←zNt hv] at rv lv;exact hk v rv lv
theorem RdSS.ixC {h s ls} (r:RdSS h s ls) {i:Int} (h0:0≤i) (h1:i<ls.length) {K:Pt→Prop} (hk:∀(p:Pt) v,cell h p=some (.sl v)→Rd h v 1 (ic (rw_ ls i.toNat))→v.len=(rw_ ls i.toNat).length→K p):ixS s 1 i K:=by
 have hlen:=r.len
 obtain ⟨vs,e1,e2,e3⟩:=r
 have hv:vs[i.toNat]? = some vs[i.toNat]:=List.getElem?_eq_getElem (by omega)
 have hr:=e3 _ _ _ hv (zLw (by omega))
 obtain hl | ⟨a,b,c⟩:=e2.at_
 ·omega
 ·refine ⟨⟨h0,by omega⟩,a,b,hk _ _ ?_ hr hr.ilen⟩
  have:=zU c (i:=i.toNat) (by omega)
  rw [Nat.mul_one,this,List.getElem?_map,hv]
  rfl
theorem wO {a b c:Int} {h:H} {K:Bool→H→Prop} (hk:K (decide (b≤a∧a≤c)) h):callB SP Wf [i64 a,i64 b,i64 c] h K:=
 (zll a b c h).to (by rintro _ _ ⟨rfl,rfl⟩;exact hk)
theorem Yp {a b c:Int} {h:H} {K:Bool→H→Prop} (hk:K (decide (b≤a∧a≤c)) h):callB SP We [i64 a,i64 b,i64 c] h K:=
 (zjl a b c h).to (by rintro _ _ ⟨rfl,rfl⟩;exact hk)
def Qset (c:Int) (ts:List Tile) (j:Nat):Prop:=Zx c (tat ts j)=true∧(0<j→cmpT (tat ts ((j:Int)-1)) (tat ts j)<0)
def setOK (c:Int) (ts:List Tile):Prop:=(1≤c∧c≤6)∧ts.length≤16∧∀j,j<ts.length→Qset c ts j
theorem Yo {h0:H} {c:Int} {s:Sl} {ts:List Tile} (r:Rd h0 s 4 (tcs ts)):callB SP zcy [.agg (SetC c s)] h0 fun b h'=>(b=true↔setOK c ts)∧Ext h0 h':=by
 have hl:=r.tlen
 apply zCF
 unfold zdC
 refine zk fun h1 o1 x1 n1=>?_
 refine zh (o1.ldI rfl rfl ?_)
 refine Yp ?_
 refine zr (fun hc=>⟨_,rfl,?_,x1⟩) (fun hc=>?_)
 ·simp only [Bool.false_eq_true,false_iff]
  intro hs
  simp at hc
  have:=hs.1;omega
 have hc':1≤c∧c≤6:=by simpa using hc
 refine zh (o1.ldS rfl rfl ?_)
 refine zc (fun hq=>⟨_,rfl,?_,x1⟩) (fun hq=>?_)
 ·simp only [Bool.false_eq_true,false_iff]
  intro hs
  have:=hs.2.1;omega
 refine ztC _ _ _ (fun i h=>0≤i∧i≤ts.length∧Ext h1 h∧∀j,j<i.toNat→Qset c ts j) (fun i _=>(ts.length-i).toNat) ?_ _ ⟨by omega,by omega,Ext.refl _,fun j hj=>by omega⟩
 rintro X i h ⟨i0,i1,x,hj⟩ hX
 unfold ztE zGi
 have o:=o1.ext x
 refine zh (o.ldS rfl rfl ?_)
 have no:∀{h'},Ext h h'→¬Qset c ts i.toNat→i<ts.length→∃b,AVal.bool false = .bool b∧(b=true↔setOK c ts)∧Ext h0 h':=fun {h'} x' hn hi=>
  ⟨_,rfl,by simp only [Bool.false_eq_true,false_iff];exact fun hs=>hn (hs.2.2 _ (by omega)),(x1.trans x).trans x'⟩
 refine zc (fun hi=>?_) (fun hi=>?_)
 ·refine zh (o.ldI rfl rfl ?_)
  refine zh (o.ldS rfl rfl ?_)
  have hn:((i.toNat:Nat):Int)=i:=by omega
  refine (r.ext (x1.trans x)).tileG i0 (by omega) ?_
  refine (zrf c ⟨by omega,by omega⟩ (tat ts i) h).to ?_
  rintro _ h2 ⟨rfl,x2⟩
  refine zr (fun hq=>no x2 (fun q=>?_) (by omega)) (fun hq=>?_)
  ·have:=q.1;rw [hn,hq] at this;cases this
  refine zc (fun hp=>?_) (fun hp=>?_)
  ·have o2:=o.ext x2
   have r2:=r.ext ((x1.trans x).trans x2)
   refine zh (o2.ldS rfl rfl ?_)
   rw [zf (by omega) (by omega)]
   refine r2.tileG (by omega) (by omega) ?_
   refine zh (o2.ldS rfl rfl ?_)
   refine r2.tileG i0 (by omega) ?_
   refine (X7 _ _ _).to ?_
   rintro _ h3 ⟨rfl,x3⟩
   refine zr (fun hb=>no (x2.trans x3) (fun q=>?_) (by omega)) (fun hb=>?_)
   ·have:=q.2 (by omega);rw [hn] at this;simp at hb;omega
   ·rw [zf (by omega) (by omega)]
    refine hX _ _ ⟨by omega,by omega,(x.trans x2).trans x3,fun j hjj=>?_⟩ (by omega)
    by_cases e:j=i.toNat
    ·subst e;refine ⟨by rw [hn];exact hq,fun _=>?_⟩;rw [hn];simpa using hb
    ·exact hj j (by omega)
  ·rw [zf (by omega) (by omega)]
   refine hX _ _ ⟨by omega,by omega,x.trans x2,fun j hjj=>?_⟩ (by omega)
   by_cases e:j=i.toNat
   ·subst e;exact ⟨by rw [hn];exact hq,fun h=>by omega⟩
   ·exact hj j (by omega)
 ·exact ⟨_,rfl,⟨fun _=>⟨hc',by omega,fun j hjj=>hj j (by omega)⟩,fun _=>rfl⟩,x1.trans x⟩
theorem zgs {h0:H} {c:Int} {s:Sl} {ts:List Tile} (r:Rd h0 s 4 (tcs ts)) (hbig:ts.length<4000000000000000000):callB SP zns [.agg (SetC c s)] h0 fun b h'=>(b=true↔setOK c ts)∧Ext h0 h':=by
 have hl:=r.tlen
 apply zCG
 unfold zdE
 refine zk fun h1 o1 x1 n1=>?_
 refine zh (o1.ldS rfl rfl ?_)
 have hw:1≤c∧c≤6→w64 (c-1)+1=c:=fun hc=>by rw [zf (by omega) (by omega)];omega
 refine ztF _ _ _ _ _ (fun i h=>0≤i∧i≤ts.length∧Ext h1 h∧(1≤c∧c≤6→∀j,j<i.toNat→Qset c ts j)) (fun i _=>(ts.length-i).toNat) ?_ _ ⟨by omega,by omega,Ext.refl _,fun _ j hj=>by omega⟩
 rintro X i h ⟨i0,i1,x,hj⟩ hX
 unfold ztH zGl
 have o:=o1.ext x
 have no:∀{h'},Ext h h'→(1≤c∧c≤6→¬Qset c ts i.toNat)→i<ts.length→∃b,AVal.bool false = .bool b∧(b=true↔setOK c ts)∧Ext h0 h':=fun {h'} x' hn hi=>
  ⟨_,rfl,by simp only [Bool.false_eq_true,false_iff];exact fun hs=>hn hs.1 (hs.2.2 _ (by omega)),(x1.trans x).trans x'⟩
 refine zc (fun hi=>?_) (fun hi=>?_)
 ·have hn:((i.toNat:Nat):Int)=i:=by omega
  refine (r.ext (x1.trans x)).tileG i0 (by omega) ?_
  refine zo fun h2 o2 x2 n2=>?_
  refine o2.stA fun h3 o3 b3 n3=>?_
  have x3:Ext h h3:=x2.but_ b3 (zi (Nat.le_refl _))
  refine o3.ldA rfl ?_
  refine zh ((o.ext x3).ldI rfl rfl ?_)
  refine (zBF (tat ts i) c h3).to ?_
  rintro _ h4 ⟨rfl,x4⟩
  refine zr (fun hq=>no (x3.trans x4) (fun hc q=>?_) (by omega)) (fun hq=>?_)
  ·have:=q.1;rw [hn] at this;rw [hw hc,this] at hq;cases hq
  refine zc (fun hp=>?_) (fun hp=>?_)
  ·have o4:=o.ext (x3.trans x4)
   have r4:=r.ext ((x1.trans x).trans (x3.trans x4))
   refine zh (o4.ldS rfl rfl ?_)
   rw [zf (n:=i-1) (by omega) (by omega)]
   refine r4.tileG (by omega) (by omega) ?_
   refine (o3.ext x4).ldA rfl ?_
   refine (ziA _ _ _).to ?_
   rintro _ h5 ⟨rfl,x5⟩
   refine zc (fun hb=>no ((x3.trans x4).trans x5) (fun hc q=>?_) (by omega)) (fun hb=>?_)
   ·have:=q.2 (by omega);rw [hn] at this;omega
   ·rw [zf (n:=i+1) (by omega) (by omega)]
    refine hX _ _ ⟨by omega,by omega,x.trans ((x3.trans x4).trans x5),fun hc j hjj=>?_⟩ (by omega)
    by_cases e:j=i.toNat
    ·subst e;refine ⟨by rw [hn,←hw hc];exact hq,fun _=>?_⟩;rw [hn];omega
    ·exact hj hc j (by omega)
  ·rw [zf (n:=i+1) (by omega) (by omega)]
   refine hX _ _ ⟨by omega,by omega,x.trans (x3.trans x4),fun hc j hjj=>?_⟩ (by omega)
   by_cases e:j=i.toNat
   ·subst e;exact ⟨by rw [hn,←hw hc];exact hq,fun h=>by omega⟩
   ·exact hj hc j (by omega)
 ·refine zh (o.ldI rfl rfl ?_)
  refine wO ?_
  refine zc (fun hc=>?_) (fun hc=>⟨_,rfl,?_,x1.trans x⟩)
  ·refine zh (o.ldS rfl rfl ⟨_,rfl,?_,x1.trans x⟩)
   rw [decide_eq_true_eq]
   exact ⟨fun hs=>⟨hc,by omega,fun j hjj=>hj hc j (by omega)⟩,fun hs=>by have:=hs.2.1;omega⟩
  ·simp only [Bool.false_eq_true,false_iff]
   exact fun hs=>hc hs.1
open Classical in
noncomputable def yf (A B:Prop):Int:=if A then (if B then 0 else 2) else 1
theorem yN {A B:Prop} (h:¬A):yf A B=1:=by unfold yf;rw [if_neg h]
theorem yG {A B:Prop} (h:A) (h2:¬B):yf A B=2:=by unfold yf;rw [if_pos h,if_neg h2]
theorem zW {A B:Prop} (h:A) (h2:B):yf A B=0:=by unfold yf;rw [if_pos h,if_pos h2]
theorem zM {A B:Prop} (h:yf A B=0):A∧B:=by
 unfold yf at h
 split at h
 ·split at h
  ·exact ⟨by assumption,by assumption⟩
  ·cases h
 ·cases h
theorem zgK {h0:H} {c:Int} {s:Sl} {ts:List Tile} (r:Rd h0 s 4 (tcs ts)) (hbig:ts.length<4000000000000000000) (g:Nat) (cap:List AVal) (Q:Prop)
  (hg:setOK c ts→∀h,Ext h0 h→callB SP g cap h fun b h'=>(b=true↔Q)∧Ext h h'):callI SP .i64 zBU [.agg (SetC c s),.func g cap] h0 fun n h'=>n=yf (setOK c ts) Q∧Ext h0 h':=by
 apply zCN
 unfold zdS
 refine zk fun h1 o1 x1 n1=>?_
 refine o1.ldA rfl ?_
 refine (zgs (r.ext x1) hbig).to ?_
 rintro b h2 ⟨hb,x2⟩
 refine zr (fun hq=>⟨_,rfl,(yN fun hs=>?_).symm,x1.trans x2⟩) (fun hq=>?_)
 ·rw [hb.2 hs] at hq;cases hq
 have hs:=hb.1 hq
 refine yz ?_
 rw [List.nil_append]
 refine (hg hs h2 (x1.trans x2)).to ?_
 rintro b h3 ⟨hb3,x3⟩
 refine zr (fun hq=>⟨_,rfl,(yG hs fun q=>?_).symm,(x1.trans x2).trans x3⟩) (fun hq=>⟨_,rfl,(zW hs (hb3.1 hq)).symm,(x1.trans x2).trans x3⟩)
 rw [hb3.2 q] at hq;cases hq
def Tabl (rows:List (List Int)) (most:Int):Prop:=(1≤rows.length∧(rows.length:Int)≤most)∧∀y,y<rows.length→(rw_ rows y).length=(rw_ rows 0).length∧1≤(rw_ rows y).length∧((rw_ rows y).length:Int)≤most
def Nums (n:Nat) (rows:List (List Int)):Prop:=(∀y x,y<rows.length→x<(rw_ rows y).length→0≤G rows y x∧G rows y x<n)∧Tabl rows 8
theorem znq {h0:H} {c:Int} {s:Sl} (i:Int) (hs:s.len<9000000000000000000):callB SP zrZ [.agg (SetC c s),i64 i] h0 fun b h'=>b=decide (0≤i∧i<s.len)∧Ext h0 h':=by
 apply zAn
 unfold Qr
 refine zk fun h1 o1 x1 n1=>?_
 refine zh (o1.ldS rfl rfl ?_)
 refine wO ?_
 refine ⟨_,rfl,?_,x1⟩
 rw [zf (by omega) (by omega)]
 rw [Bool.eq_iff_iff,decide_eq_true_eq,decide_eq_true_eq];omega
theorem zrm {h0:H} {s:Sl} {rows:List (List Int)} (r:RdSS h0 s rows) (most:Int) (hm:most<1000):callB SP zrY [.sl s,i64 most] h0 fun b h'=>(b=true↔Tabl rows most)∧h'=h0:=by
 have hl:=r.len
 apply zAk
 unfold Qp
 refine zc (fun hq=>⟨_,rfl,?_,rfl⟩) (fun hq=>?_)
 ·simp only [Bool.false_eq_true,false_iff]
  intro t;have:=t.1;omega
 refine zc (fun hq2=>⟨_,rfl,?_,rfl⟩) (fun hq2=>?_)
 ·simp only [Bool.false_eq_true,false_iff]
  intro t;have:=t.1;omega
 refine zpN _ _ _ _ _ _ (fun i h=>0≤i∧i≤rows.length∧h=h0∧∀y,y<i.toNat→(rw_ rows y).length=(rw_ rows 0).length∧1≤(rw_ rows y).length∧((rw_ rows y).length:Int)≤most) (fun i _=>(rows.length-i).toNat) ?_ _ ⟨by omega,by omega,rfl,fun j hj=>by omega⟩
 rintro X i _ ⟨i0,i1,rfl,hj⟩ hX
 unfold zkU zAm
 refine zc (fun hi=>?_) (fun hi=>?_)
 ·refine r.ldG i0 (by omega) fun v rv lv=>?_
  refine r.ldG (by omega) (by omega) fun v0 rv0 lv0=>?_
  have no:¬((rw_ rows i.toNat).length=(rw_ rows 0).length∧1≤(rw_ rows i.toNat).length∧((rw_ rows i.toNat).length:Int)≤most)→(false=true↔Tabl rows most):=fun hn=>by
   simp only [Bool.false_eq_true,false_iff];exact fun t=>hn (t.2 _ (by omega))
  have lv0':v0.len=(rw_ rows 0).length:=lv0
  refine zF (fun hq=>⟨_,rfl,no (by omega),rfl⟩) (fun hq=>?_)
  refine zc (fun hq=>⟨_,rfl,no (by omega),rfl⟩) (fun hq=>?_)
  refine zc (fun hq=>⟨_,rfl,no (by omega),rfl⟩) (fun hq=>?_)
  rw [zf (by omega) (by omega)]
  refine hX _ _ ⟨by omega,by omega,rfl,fun j hjj=>?_⟩ (by omega)
  by_cases e:j=i.toNat
  ·subst e;omega
  ·exact hj j (by omega)
 ·exact ⟨_,rfl,⟨fun _=>⟨⟨by omega,by omega⟩,fun j hjj=>hj j (by omega)⟩,fun _=>rfl⟩,rfl⟩
theorem zrh {h0:H} {c:Int} {s q:Sl} {ts:List Tile} {rows:List (List Int)} (r:Rd h0 s 4 (tcs ts)) (rr:RdSS h0 q rows):
  callI SP .i64 zIK [.agg (SetC c s),.sl q] h0 fun n h'=>n=yf (setOK c ts) (Nums ts.length rows)∧Ext h0 h':=by
 have hl:=r.tlen
 have hq:=rr.len
 apply zCB
 unfold zdt
 refine zk fun h1 o1 x1 n1=>?_
 refine o1.ldA rfl ?_
 refine (Yo (r.ext x1)).to ?_
 rintro b h2 ⟨hb,x2⟩
 have X2:=x1.trans x2
 refine zr (fun hqb=>⟨_,rfl,(yN fun hs=>?_).symm,X2⟩) (fun hqb=>?_)
 ·rw [hb.2 hs] at hqb;cases hqb
 have hs:=hb.1 hqb
 have no:∀{h'},Ext h0 h'→¬Nums ts.length rows→∃n,AVal.int .i64 2 = .int .i64 n∧n=yf (setOK c ts) (Nums ts.length rows)∧Ext h0 h':=fun x hn=>⟨_,rfl,(yG hs hn).symm,x⟩
 refine zc (fun hq=>no X2 fun t=>?_) (fun hq1=>?_)
 ·have:=t.2.1;omega
 refine zc (fun hq=>no X2 fun t=>?_) (fun hq2=>?_)
 ·have:=t.2.1;omega
 refine (rr.ext X2).ldG (by omega) (by omega) fun v rv lv=>?_
 have lv0:v.len=(rw_ rows 0).length:=lv
 refine zc (fun hq=>no X2 fun t=>?_) (fun hq3=>?_)
 ·have:=t.2.2 0 (by omega);omega
 refine (rr.ext X2).ldG (by omega) (by omega) fun v' rv' lv'=>?_
 have lv0':v'.len=(rw_ rows 0).length:=lv'
 refine zc (fun hq=>no X2 fun t=>?_) (fun hq4=>?_)
 ·have:=t.2.2 0 (by omega);omega
 refine ztu _ _ _ _ (fun i h=>0≤i∧i≤rows.length∧Ext h2 h∧∀y,y<i.toNat→(rw_ rows y).length=(rw_ rows 0).length∧∀x,x<(rw_ rows y).length→0≤G rows y x∧G rows y x<ts.length) (fun i _=>(rows.length-i).toNat) ?_ _ ⟨by omega,by omega,Ext.refl _,fun j hj=>by omega⟩
 rintro X i h ⟨i0,i1,x,hj⟩ hX
 unfold zty zGc
 have XX:=X2.trans x
 refine zc (fun hi=>?_) (fun hi=>?_)
 ·refine (rr.ext XX).ldG i0 (by omega) fun u ru lu=>?_
  refine (rr.ext XX).ldG (by omega) (by omega) fun u' ru' lu'=>?_
  have lu0:u'.len=(rw_ rows 0).length:=lu'
  refine zF (fun hq=>no XX fun t=>?_) (fun hq=>?_)
  ·have:=t.2.2 i.toNat (by omega);omega
  refine ztt _ _ X _ _ _ (fun k h'=>0≤k∧k≤(rw_ rows i.toNat).length∧Ext h h'∧∀x,x<k.toNat→0≤G rows i.toNat x∧G rows i.toNat x<ts.length) (fun k _=>((rw_ rows i.toNat).length-k).toNat) ?_ _ ⟨by omega,by omega,Ext.refl _,fun x hx=>by omega⟩
  rintro Y k h' ⟨k0,k1,x',hk⟩ hY
  unfold ztx zGa zGb
  have XX':=XX.trans x'
  refine (rr.ext XX').ldG i0 (by omega) fun w rw1 lw=>?_
  refine zc (fun hki=>?_) (fun hki=>?_)
  ·refine (rr.ext XX').ldG i0 (by omega) fun w' rw2 lw'=>?_
   refine rw2.ldG k0 (by omega) ?_
   refine zh ((o1.ext (x2.trans (x.trans x'))).ldS rfl rfl ?_)
   have:=hs.2.1
   rw [zf (by omega) (by omega)]
   refine Yp ?_
   refine zr (fun hb=>no XX' fun t=>?_) (fun hb=>?_)
   ·have:=t.1 i.toNat k.toNat (by omega) (by omega)
    unfold G at this
    simp at hb this
    omega
   ·rw [zf (by omega) (by omega)]
    refine hY _ _ ⟨by omega,by omega,x',fun j hjj=>?_⟩ (by omega)
    by_cases e:j=k.toNat
    ·subst e
     unfold G
     have:=of_decide_eq_true hb
     omega
    ·exact hk j (by omega)
  ·rw [zf (by omega) (by omega)]
   refine hX _ _ ⟨by omega,by omega,x.trans x',fun y hy=>?_⟩ (by omega)
   by_cases e:y=i.toNat
   ·subst e;exact ⟨by omega,fun z hz=>hk z (by omega)⟩
   ·exact hj y (by omega)
 ·refine ⟨_,rfl,(zW hs ⟨fun y z hy hz=>(hj y (by omega)).2 z hz,⟨by omega,by omega⟩,fun y hy=>?_⟩).symm,XX⟩
  have:=(hj y (by omega)).1
  omega
def TS (c:Int) (ts:List Tile):Prop:=1≤c∧∀t∈ts,∀k,k<4→0≤sd t k∧sd t k<c
theorem setOK.ts {c:Int} {ts:List Tile} (h:setOK c ts):TS c ts:=by
 refine ⟨h.1.1,fun t ht k hk=>?_⟩
 obtain ⟨i,hi,rfl⟩:=List.getElem_of_mem ht
 have:=(h.2.2 i hi).1
 rw [Xz (n:=(i:Int)) (t:=ts[i]) (by rw [Int.toNat_natCast];exact List.getElem?_eq_getElem hi)] at this
 unfold Zx at this
 simp only [Bool.and_eq_true,decide_eq_true_eq] at this
 match k,hk with
 | 0,_=>show 0≤ts[i].1∧ts[i].1<c;omega
 | 1,_=>show 0≤ts[i].2.1∧ts[i].2.1<c;omega
 | 2,_=>show 0≤ts[i].2.2.1∧ts[i].2.2.1<c;omega
 | 3,_=>show 0≤ts[i].2.2.2∧ts[i].2.2.2<c;omega
end Go.Proofs.YtlcgclmobfdbcaaGreat.Cl
set_option linter.unusedVariables false
set_option linter.unusedSimpArgs false
namespace Go.Proofs.YtlcgclmobfdbcaaGreat.Cl
open Go
def dig (c v k:Nat):Nat:=v/c^k%c
def setD (c x d v:Nat):Nat:=v/c^(x+1)*c^(x+1)+d*c^x+v%c^x
theorem zBe (c v x:Nat):v=v/c^(x+1)*c^(x+1)+dig c v x*c^x+v%c^x:=by
 have h1:=Nat.div_add_mod v (c^(x+1))
 have h2:v%c^(x+1)=v%c^x+c^x*(v/c^x%c):=by rw [Nat.pow_succ,Nat.mod_mul]
 unfold dig
 rw [Nat.mul_comm (v/c^(x+1)),Nat.mul_comm (v/c^x%c)]
 omega
theorem ziU (c x d v:Nat):(setD c x d v:Int)=v+((d:Int)-dig c v x)*((c^x:Nat):Int):=by
 have h:=zBe c v x
 unfold setD
 rw [Int.sub_mul]
 have:(v:Int)=((v/c^(x+1)*c^(x+1):Nat):Int)+((dig c v x*c^x:Nat):Int)+((v%c^x:Nat):Int):=by exact_mod_cast h
 rw [←Int.natCast_mul,←Int.natCast_mul]
 push_cast at this ⊢
 omega
theorem zIk {c x d v w:Nat} (hc:0<c) (hd:d<c) (hx:x<w) (hv:v<c^w):setD c x d v<c^w:=by
 have hp:0<c^x:=Nat.pow_pos hc
 have h1:v%c^x<c^x:=Nat.mod_lt _ hp
 have h2:(d+1)*c^x≤c*c^x:=Nat.mul_le_mul_right _ hd
 rw [Nat.add_mul,Nat.one_mul] at h2
 have h3:c^(x+1)=c*c^x:=by rw [Nat.pow_succ,Nat.mul_comm]
 have h4:c^w=c^(w-(x+1))*c^(x+1):=by rw [←Nat.pow_add];congr 1;omega
 have h5:v/c^(x+1)<c^(w-(x+1)):=by
  rw [Nat.div_lt_iff_lt_mul (Nat.pow_pos hc),←h4];exact hv
 have h6:(v/c^(x+1)+1)*c^(x+1)≤c^(w-(x+1))*c^(x+1):=Nat.mul_le_mul_right _ h5
 rw [Nat.add_mul,Nat.one_mul,←h4] at h6
 unfold setD
 omega
theorem vV {c v x w:Nat} (hx:x<w):dig c (v%c^w) x=dig c v x:=by
 unfold dig
 have h4:c^w=c^x*(c*c^(w-(x+1))):=by rw [←Nat.mul_assoc,←Nat.pow_succ,←Nat.pow_add];congr 1;omega
 rw [h4,Nat.mod_mul_right_div_self,Nat.mod_mul_right_mod]
theorem zHT {c v k:Nat} (hc:0<c):dig c v k<c:=Nat.mod_lt _ hc
theorem zla {c v w:Nat} (hv:v<c^(w+1)):dig c v w=v/c^w:=by
 unfold dig
 rw [Nat.mod_eq_of_lt]
 have hc:0<c:=by
  rcases Nat.eq_zero_or_pos c with h | h
  ·subst h;simp at hv
  ·exact h
 rw [Nat.div_lt_iff_lt_mul (Nat.pow_pos hc),Nat.mul_comm,←Nat.pow_succ];exact hv
structure Dp where
 n:Nat
 c:Nat
 w:Nat
 size:Nat
 B:Nat→Nat→Bool
 we:Nat→Nat
 no:Nat→Nat
 ea:Nat→Nat
 so:Nat→Nat
namespace Dp
variable (D:Dp)
def top:Nat:=D.c^D.w
def can (r p i:Nat):Bool:=D.B p i&&(p/D.w==0||dig D.c r (p%D.w)==D.no i)&&(p%D.w==0||dig D.c r D.w==D.we i)
def stepR (r p i:Nat):Nat:=setD D.c (p%D.w) (D.so i) (r%D.top)+D.ea i*D.top
def stepI (r p i:Nat):Nat:=setD D.c (p%D.w) (D.so i) (r%D.top)+if p%D.w+1<D.w then D.ea i*D.top else 0
def rho (p r:Nat):Nat:=if p%D.w=0 then r%D.top else r
def reach (st:Nat→Nat→Nat→Nat):Nat→Nat→Prop
 | 0,s=>s=0
 | p+1,s=>∃s' i,reach st p s'∧i<D.n∧D.can s' p i=true∧s=st s' p i
def comp (st:Nat→Nat→Nat→Nat):Nat→Nat→Nat→Prop
 | 0,_,_=>True
 | m+1,p,s=>∃i,i<D.n∧D.can s p i=true∧comp st m (p+1) (st s p i)
def alive (p s:Nat):Prop:=D.reach D.stepI p s∧D.comp D.stepI (D.size-p) p s
def left (p r:Nat):Prop:=D.comp D.stepR (D.size-p) p r
def now:Nat→Nat→Prop
 | 0,r=>r=0
 | p+1,r=>∃r' i,now p r'∧i<D.n∧D.can r' p i=true∧D.left (p+1) r∧r=D.stepR r' p i
def stand (p i:Nat):Prop:=∃r,D.now p r∧D.can r p i=true∧D.left (p+1) (D.stepR r p i)
def at_ (p i:Nat):Prop:=∃s,D.alive p s∧D.can s p i=true∧D.alive (p+1) (D.stepI s p i)
structure OK:Prop where
 hc:0<D.c
 hw:0<D.w
 we:∀i,i<D.n→D.we i<D.c
 no:∀i,i<D.n→D.no i<D.c
 ea:∀i,i<D.n→D.ea i<D.c
 so:∀i,i<D.n→D.so i<D.c
variable {D} (ok:D.OK)
include ok
theorem top_pos:0<D.top:=Nat.pow_pos ok.hc
theorem set_lt {p i r:Nat} (hi:i<D.n):setD D.c (p%D.w) (D.so i) (r%D.top)<D.top:=
 zIk ok.hc (ok.so i hi) (Nat.mod_lt _ ok.hw) (Nat.mod_lt _ (top_pos ok))
theorem stepR_lt {p i r:Nat} (hi:i<D.n):D.stepR r p i<D.c^(D.w+1):=by
 have h1:=set_lt ok (p:=p) (r:=r) hi
 have h2:(D.ea i+1)*D.top≤D.c*D.top:=Nat.mul_le_mul_right _ (ok.ea i hi)
 rw [Nat.add_mul,Nat.one_mul] at h2
 have h3:D.c^(D.w+1)=D.c*D.top:=by rw [Nat.pow_succ,Nat.mul_comm];rfl
 unfold stepR
 omega
theorem stepI_lt {p i r:Nat} (hi:i<D.n):D.stepI r p i<D.c^(D.w+1):=by
 have h1:=set_lt ok (p:=p) (r:=r) hi
 have h2:(D.ea i+1)*D.top≤D.c*D.top:=Nat.mul_le_mul_right _ (ok.ea i hi)
 rw [Nat.add_mul,Nat.one_mul] at h2
 have h3:D.c^(D.w+1)=D.c*D.top:=by rw [Nat.pow_succ,Nat.mul_comm];rfl
 unfold stepI
 split <;> omega
theorem Zu (p r i:Nat):D.can (D.rho p r) p i=D.can r p i:=by
 unfold can rho
 split
 ·next h=>
  have h1:D.top=D.c^D.w:=rfl
  rw [h1,vV (Nat.mod_lt _ ok.hw),h]
  simp
 ·rfl
theorem wt (p r i:Nat) (hi:i<D.n):D.rho (p+1) (D.stepR r p i)=D.stepI (D.rho p r) p i:=by
 have hs:(D.rho p r)%D.top=r%D.top:=by unfold rho;split <;> simp
 unfold stepI
 rw [hs]
 have hm:=Nat.mod_lt p ok.hw
 by_cases hx:p%D.w+1<D.w
 ·rw [if_pos hx]
  unfold rho
  have:(p+1)%D.w≠0:=by
   rw [Nat.add_mod,Nat.mod_eq_of_lt (a:=1) (by omega),Nat.mod_eq_of_lt hx];omega
  rw [if_neg this];rfl
 ·rw [if_neg hx]
  unfold rho
  have:(p+1)%D.w=0:=by
   rw [←Nat.mod_add_mod,show p%D.w+1=D.w by omega,Nat.mod_self]
  rw [if_pos this]
  unfold stepR
  rw [Nat.add_mul_mod_self_right,Nat.mod_eq_of_lt (set_lt ok hi)];rfl
theorem vD:∀p s,D.reach D.stepI p s↔∃r,D.reach D.stepR p r∧s=D.rho p r
 | 0,s=>by
  have h0:D.rho 0 0=0:=by unfold rho;simp
  constructor
  ·intro h;exact ⟨0,rfl,by rw [h0];exact h⟩
  ·rintro ⟨r,h1,h2⟩
   have h1':r=0:=h1
   rw [h1',h0] at h2;exact h2
 | p+1,s=>by
  constructor
  ·rintro ⟨s',i,h1,hi,h2,rfl⟩
   obtain ⟨r,h3,rfl⟩:=(vD p s').1 h1
   exact ⟨D.stepR r p i,⟨r,i,h3,hi,by rw [←Zu ok];exact h2,rfl⟩,(wt ok p r i hi).symm⟩
  ·rintro ⟨r,⟨r',i,h1,hi,h2,rfl⟩,rfl⟩
   exact ⟨D.rho p r',i,(vD p _).2 ⟨r',h1,rfl⟩,hi,by rw [Zu ok];exact h2,wt ok p r' i hi⟩
theorem qK:∀m p r,D.comp D.stepI m p (D.rho p r)↔D.comp D.stepR m p r
 | 0,p,r=>Iff.rfl
 | m+1,p,r=>by
  constructor
  ·rintro ⟨i,hi,h1,h2⟩
   rw [←wt ok p r i hi] at h2
   exact ⟨i,hi,by rw [←Zu ok];exact h1,(qK m (p+1) _).1 h2⟩
  ·rintro ⟨i,hi,h1,h2⟩
   refine ⟨i,hi,by rw [Zu ok];exact h1,?_⟩
   rw [←wt ok p r i hi]
   exact (qK m (p+1) _).2 h2
omit ok in
theorem XV {p r i:Nat} (hp:p<D.size) (hi:i<D.n) (h1:D.can r p i=true) (h2:D.left (p+1) (D.stepR r p i)):D.left p r:=by
 unfold left at *
 rw [show D.size-p=(D.size-(p+1))+1 by omega]
 exact ⟨i,hi,h1,h2⟩
omit ok in
theorem zqT:∀p r,p≤D.size→D.reach D.stepR p r→D.left p r→D.now p r
 | 0,r,_,h,_=>h
 | p+1,r,hp,⟨r',i,h1,hi,h2,h3⟩,hl=>by
  refine ⟨r',i,zqT p r' (by omega) h1 (XV hp hi h2 (by rw [←h3];exact hl)),hi,h2,hl,h3⟩
omit ok in
theorem vC:∀p r,D.now p r→D.reach D.stepR p r
 | 0,r,h=>h
 | p+1,r,⟨r',i,h1,hi,h2,_,h3⟩=>⟨r',i,vC p r' h1,hi,h2,h3⟩
theorem at_stand {p i:Nat} (hp:p<D.size) (hi:i<D.n):D.at_ p i↔D.stand p i:=by
 constructor
 ·rintro ⟨s,⟨h1,h2⟩,h3,h4,h5⟩
  obtain ⟨r,h6,rfl⟩:=(vD ok p s).1 h1
  rw [Zu ok] at h3
  rw [←wt ok p r i hi,qK ok] at h5
  exact ⟨r,zqT p r (by omega) h6 (XV hp hi h3 h5),h3,h5⟩
 ·rintro ⟨r,h1,h2,h3⟩
  have hr:=vC p r h1
  refine ⟨D.rho p r,⟨(vD ok p _).2 ⟨r,hr,rfl⟩,?_⟩,by rw [Zu ok];exact h2,(vD ok (p+1) _).2 ⟨D.stepR r p i,⟨r,i,hr,hi,h2,rfl⟩,(wt ok p r i hi).symm⟩,?_⟩
  ·rw [qK ok];exact XV hp hi h2 h3
  ·rw [←wt ok p r i hi,qK ok];exact h3
theorem reach_lt:∀p s,D.reach D.stepI p s→s<D.c^(D.w+1)
 | 0,s,h=>by have:s=0:=h;rw [this];exact Nat.pow_pos ok.hc
 | p+1,s,⟨s',i,_,hi,_,h⟩=>by rw [h];exact stepI_lt ok hi
theorem now_lt:∀p s,D.now p s→s<D.c^(D.w+1)
 | 0,s,h=>by have:s=0:=h;rw [this];exact Nat.pow_pos ok.hc
 | p+1,s,⟨s',i,_,hi,_,_,h⟩=>by rw [h];exact stepR_lt ok hi
omit ok in
theorem stand_some (h0:D.left 0 0):∀p,p<D.size→∃i,i<D.n∧D.stand p i:=by
 have key:∀p,p≤D.size→∃r,D.now p r∧D.left p r:=by
  intro p
  induction p with
  | zero=>intro _;exact ⟨0,rfl,h0⟩
  | succ p ih=>
   intro hp
   obtain ⟨r,h1,h2⟩:=ih (by omega)
   have h2':=h2
   unfold left at h2'
   rw [show D.size-p=(D.size-(p+1))+1 by omega] at h2'
   obtain ⟨i,hi,h3,h4⟩:=h2'
   exact ⟨_,⟨r,i,h1,hi,h3,h4,rfl⟩,h4⟩
 intro p hp
 obtain ⟨r,h1,h2⟩:=key p (by omega)
 have h2':=h2
 unfold left at h2'
 rw [show D.size-p=(D.size-(p+1))+1 by omega] at h2'
 obtain ⟨i,hi,h3,h4⟩:=h2'
 exact ⟨i,hi,r,h1,h3,h4⟩
omit ok in
theorem stand_none (hs:0<D.size) (h0:¬D.left 0 0) (i:Nat) (hi:i<D.n):¬D.stand 0 i:=by
 rintro ⟨r,h1,h2,h3⟩
 have:r=0:=h1
 subst this
 exact h0 (XV hs hi h2 h3)
theorem alive_zero:D.alive 0 0↔D.left 0 0:=by
 unfold alive left
 have h0:D.rho 0 0=0:=by unfold rho;simp
 have:=qK ok (D.size-0) 0 0
 rw [h0] at this
 rw [this]
 exact ⟨fun h=>h.2,fun h=>⟨rfl,h⟩⟩
end Dp
end Go.Proofs.YtlcgclmobfdbcaaGreat.Cl
set_option linter.unusedVariables false
set_option linter.unusedSimpArgs false
namespace Go.Proofs.YtlcgclmobfdbcaaGreat.Cl
open Go
section
variable {c v x y d:Nat}
theorem zBg (hc:0<c) (hd:d<c):setD c x d v%c^x=v%c^x:=by
 unfold setD
 have h1:v/c^(x+1)*c^(x+1)+d*c^x+v%c^x=v%c^x+c^x*(v/c^(x+1)*c+d):=by
  rw [Nat.pow_succ,Nat.mul_add,Nat.mul_comm (c^x) d,←Nat.mul_assoc (c^x),Nat.mul_comm (c^x) (v/(c^x*c)),Nat.mul_assoc];omega
 rw [h1,Nat.add_mul_mod_self_left,Nat.mod_mod]
theorem zls (hc:0<c):setD c x d v/c^x=v/c^(x+1)*c+d:=by
 have hp:0<c^x:=Nat.pow_pos hc
 unfold setD
 have h1:v/c^(x+1)*c^(x+1)+d*c^x+v%c^x=v%c^x+c^x*(v/c^(x+1)*c+d):=by
  rw [Nat.pow_succ,Nat.mul_add,Nat.mul_comm (c^x) d,←Nat.mul_assoc (c^x),Nat.mul_comm (c^x) (v/(c^x*c)),Nat.mul_assoc];omega
 rw [h1,Nat.add_mul_div_left _ _ hp,Nat.div_eq_of_lt (Nat.mod_lt _ hp),Nat.zero_add]
theorem zEs (hc:0<c) (hd:d<c):dig c (setD c x d v) x=d:=by
 unfold dig
 rw [zls hc,Nat.add_comm,Nat.add_mul_mod_self_right,Nat.mod_eq_of_lt hd]
theorem zlb (hc:0<c) (hd:d<c) (h:y≠x):dig c (setD c x d v) y=dig c v y:=by
 rcases Nat.lt_or_gt_of_ne h with h | h
 ·rw [←vV (v:=setD c x d v) h,zBg hc hd,vV h]
 ·obtain ⟨k,rfl⟩:∃k,y=x+1+k:=⟨y-(x+1),by omega⟩
  unfold dig
  have e1:c^(x+1+k)=c^(x+1)*c^k:=Nat.pow_add _ _ _
  have e2:setD c x d v/c^(x+1)=v/c^(x+1):=by
   rw [Nat.pow_succ,←Nat.div_div_eq_div_mul,zls hc,Nat.add_comm,Nat.add_mul_div_right _ _ hc,Nat.div_eq_of_lt hd,Nat.zero_add,Nat.pow_succ]
  rw [e1,←Nat.div_div_eq_div_mul,←Nat.div_div_eq_div_mul,e2]
end
namespace Dp
variable {D:Dp}
theorem zEr (ok:D.OK) {r p i:Nat} (hi:i<D.n) {x:Nat} (hx:x<D.w):dig D.c (D.stepR r p i) x=if x=p%D.w then D.so i else dig D.c r x:=by
 have h1:dig D.c (D.stepR r p i) x=dig D.c (setD D.c (p%D.w) (D.so i) (r%D.top)) x:=by
  have h2:D.stepR r p i%D.c^D.w=setD D.c (p%D.w) (D.so i) (r%D.top):=by
   show (setD D.c (p%D.w) (D.so i) (r%D.top)+D.ea i*D.c^D.w)%D.c^D.w=_
   rw [Nat.add_mul_mod_self_right];exact Nat.mod_eq_of_lt (set_lt ok hi)
  rw [←vV (v:=D.stepR r p i) hx,h2]
 rw [h1]
 by_cases e:x=p%D.w
 ·rw [if_pos e,e,zEs ok.hc (ok.so i hi)]
 ·rw [if_neg e,zlb ok.hc (ok.so i hi) e]
  exact vV hx
theorem zAv (ok:D.OK) {r p i:Nat} (hi:i<D.n):dig D.c (D.stepR r p i) D.w=D.ea i:=by
 rw [zla (stepR_lt ok hi)]
 show (setD D.c (p%D.w) (D.so i) (r%D.top)+D.ea i*D.c^D.w)/D.c^D.w=_
 have hp:0<D.c^D.w:=Nat.pow_pos ok.hc
 have h0:setD D.c (p%D.w) (D.so i) (r%D.top)/D.c^D.w=0:=Nat.div_eq_of_lt (set_lt ok hi)
 rw [Nat.add_mul_div_right _ _ hp,h0,Nat.zero_add]
def run (D:Dp):Nat→Nat→List Nat→Prop
 | _,_,[]=>True
 | p,r,i::L=>i<D.n∧D.can r p i=true∧run D (p+1) (D.stepR r p i) L
def end_ (D:Dp):Nat→Nat→List Nat→Nat
 | _,r,[]=>r
 | p,r,i::L=>end_ D (p+1) (D.stepR r p i) L
theorem XD:∀(L M:List Nat) (p r:Nat),D.run p r (L++M)↔D.run p r L∧D.run (p+L.length) (D.end_ p r L) M
 | [],M,p,r=>by simp [run,end_]
 | i::L,M,p,r=>by
  have h:=XD L M (p+1) (D.stepR r p i)
  show i<D.n∧D.can r p i=true∧D.run (p+1) (D.stepR r p i) (L++M)↔(i<D.n∧D.can r p i=true∧D.run (p+1) (D.stepR r p i) L)∧D.run (p+(L.length+1)) (D.end_ (p+1) (D.stepR r p i) L) M
  rw [h,show p+(L.length+1)=p+1+L.length by omega]
  exact ⟨fun ⟨a,b,c,d⟩=>⟨⟨a,b,c⟩,d⟩,fun ⟨⟨a,b,c⟩,d⟩=>⟨a,b,c,d⟩⟩
theorem zkW:∀(L M:List Nat) (p r:Nat),D.end_ p r (L++M)=D.end_ (p+L.length) (D.end_ p r L) M
 | [],M,p,r=>rfl
 | i::L,M,p,r=>by
  have h:=zkW L M (p+1) (D.stepR r p i)
  show D.end_ (p+1) (D.stepR r p i) (L++M)=D.end_ (p+(L.length+1)) (D.end_ (p+1) (D.stepR r p i) L) M
  rw [h,show p+(L.length+1)=p+1+L.length by omega]
theorem comp_run:∀(m p r:Nat),D.comp D.stepR m p r↔∃L:List Nat,L.length=m∧D.run p r L
 | 0,p,r=>⟨fun _=>⟨[],rfl,trivial⟩,fun _=>trivial⟩
 | m+1,p,r=>by
  constructor
  ·rintro ⟨i,hi,h1,h2⟩
   obtain ⟨L,h3,h4⟩:=(comp_run m (p+1) _).1 h2
   exact ⟨i::L,by simp [h3],hi,h1,h4⟩
  ·rintro ⟨L,h1,h2⟩
   cases L with
   | nil=>simp at h1
   | cons i L=>exact ⟨i,h2.1,h2.2.1,(comp_run m (p+1) _).2 ⟨L,by simpa using h1,h2.2.2⟩⟩
theorem ZG:∀(p r:Nat),D.reach D.stepR p r↔∃L:List Nat,L.length=p∧D.run 0 0 L∧D.end_ 0 0 L=r
 | 0,r=>⟨fun h=>⟨[],rfl,trivial,(show r=0 from h).symm⟩,fun ⟨L,h1,h2,h3⟩=>by
   have:L=[]:=List.length_eq_zero_iff.1 h1
   subst this;exact h3.symm⟩
 | p+1,r=>by
  constructor
  ·rintro ⟨s,i,h1,hi,h2,rfl⟩
   obtain ⟨L,a,b,e⟩:=(ZG p s).1 h1
   refine ⟨L++[i],by simp [a],(XD L [i] 0 0).2 ⟨b,?_⟩,?_⟩
   ·rw [e,a,Nat.zero_add];exact ⟨hi,h2,trivial⟩
   ·rw [zkW,e,a,Nat.zero_add];rfl
  ·rintro ⟨L,a,b,e⟩
   rcases List.eq_nil_or_concat L with rfl | ⟨M,i,rfl⟩
   ·simp at a
   ·rw [List.concat_eq_append] at *
    have hm:M.length=p:=by simpa using a
    obtain ⟨b1,b2⟩:=(XD M [i] 0 0).1 b
    rw [zkW,hm,Nat.zero_add] at e
    rw [hm,Nat.zero_add] at b2
    exact ⟨D.end_ 0 0 M,i,(ZG p _).2 ⟨M,hm,b1,rfl⟩,b2.1,b2.2.1,e.symm⟩
def Fill (D:Dp) (L:List Nat):Prop:=L.length=D.size∧D.run 0 0 L
theorem stand_fill {p i:Nat} (hp:p<D.size):D.stand p i∧i<D.n↔∃L,D.Fill L∧L.getD p 0=i:=by
 constructor
 ·rintro ⟨⟨r,h1,h2,h3⟩,hi⟩
  obtain ⟨A,a1,a2,a3⟩:=(ZG p r).1 (vC p r h1)
  obtain ⟨B,b1,b2⟩:=(comp_run _ _ _).1 h3
  refine ⟨A++i::B,⟨by simp [a1,b1];omega,(XD A (i::B) 0 0).2 ⟨a2,?_⟩⟩,?_⟩
  ·rw [a3,a1,Nat.zero_add];exact ⟨hi,h2,b2⟩
  ·rw [List.getD_eq_getElem?_getD,List.getElem?_append_right (by omega),a1,Nat.sub_self];rfl
 ·rintro ⟨L,⟨h1,h2⟩,rfl⟩
  have hpl:p<L.length:=by omega
  have e:L=L.take p++L.getD p 0::L.drop (p+1):=by
   rw [List.getD_eq_getElem?_getD,List.getElem?_eq_getElem hpl,Option.getD_some,←List.drop_eq_getElem_cons hpl,List.take_append_drop]
  have ht:(L.take p).length=p:=by rw [List.length_take];omega
  rw [e] at h2
  obtain ⟨b1,b2⟩:=(XD _ _ 0 0).1 h2
  rw [ht,Nat.zero_add] at b2
  obtain ⟨c1,c2,c3⟩:=b2
  have hr:D.reach D.stepR p (D.end_ 0 0 (L.take p)):=(ZG p _).2 ⟨_,ht,b1,rfl⟩
  have hl:D.left (p+1) (D.stepR (D.end_ 0 0 (L.take p)) p (L.getD p 0)):=(comp_run _ _ _).2 ⟨L.drop (p+1),by rw [List.length_drop];omega,c3⟩
  exact ⟨⟨_,zqT p _ (by omega) hr (XV hp c1 c2 hl),c2,hl⟩,c1⟩
theorem left_fill:D.left 0 0↔∃L,D.Fill L:=by
 unfold left
 rw [comp_run]
 exact Iff.rfl
def Fit (D:Dp) (L:List Nat):Prop:=L.length=D.size∧∀q,q<D.size→L.getD q 0<D.n∧D.B q (L.getD q 0)=true∧(D.w≤q→D.so (L.getD (q-D.w) 0)=D.no (L.getD q 0))∧(q%D.w≠0→D.ea (L.getD (q-1) 0)=D.we (L.getD q 0))
theorem zLT {w p q:Nat} (h1:q<p) (h2:p<q+w):q%w≠p%w:=fun e=>by
 have hw:0<w:=by omega
 have a:=Nat.div_add_mod p w
 have b:=Nat.div_add_mod q w
 rw [e] at b
 have hlt:w*(q/w)<w*(p/w):=by omega
 have hd:q/w<p/w:=Nat.lt_of_mul_lt_mul_left hlt
 have:=Nat.mul_le_mul_left w hd
 rw [Nat.mul_succ] at this
 omega
theorem zqz (ok:D.OK):∀(L P:List Nat) (r:Nat),(∀q,q<P.length→P.length≤q+D.w→dig D.c r (q%D.w)=D.so (P.getD q 0))→(P.length≠0→dig D.c r D.w=D.ea (P.getD (P.length-1) 0))→
  (D.run P.length r L↔∀q,P.length≤q→q<(P++L).length→(P++L).getD q 0<D.n∧D.B q ((P++L).getD q 0)=true∧(D.w≤q→D.so ((P++L).getD (q-D.w) 0)=D.no ((P++L).getD q 0))∧(q%D.w≠0→D.ea ((P++L).getD (q-1) 0)=D.we ((P++L).getD q 0)))
 | [],P,r,_,_=>⟨fun _ q h1 h2=>by simp at h2;omega,fun _=>trivial⟩
 | i::L,P,r,hs,he=>by
  have hw:=ok.hw
  have hPi:∀q,q<P.length→(P++[i]).getD q 0=P.getD q 0:=fun q hq=>by
   rw [List.getD_eq_getElem?_getD,List.getD_eq_getElem?_getD,List.getElem?_append_left hq]
  have hPe:(P++[i]).getD P.length 0=i:=by rw [List.getD_eq_getElem?_getD,List.getElem?_append_right (Nat.le_refl _),Nat.sub_self];rfl
  have hA:P++i::L=(P++[i])++L:=by simp
  have hAl:∀q,q<(P++[i]).length→((P++[i])++L).getD q 0=(P++[i]).getD q 0:=fun q hq=>by
   rw [List.getD_eq_getElem?_getD,List.getD_eq_getElem?_getD,List.getElem?_append_left hq]
  have hl1:(P++[i]).length=P.length+1:=by simp
  -- the step here
  have here:D.can r P.length i=true↔D.B P.length i=true∧(D.w≤P.length→D.so (P.getD (P.length-D.w) 0)=D.no i)∧(P.length%D.w≠0→D.ea (P.getD (P.length-1) 0)=D.we i):=by
   unfold can
   rw [Bool.and_eq_true,Bool.and_eq_true,Bool.or_eq_true,Bool.or_eq_true,beq_iff_eq,beq_iff_eq,beq_iff_eq,beq_iff_eq,and_assoc]
   refine and_congr_right fun _=>and_congr ?_ ?_
   ·by_cases h:D.w≤P.length
    ·have h1:P.length/D.w≠0:=by have:=Nat.div_pos h hw;omega
     have h2:=hs (P.length-D.w) (by omega) (by omega)
     have h3:(P.length-D.w)%D.w=P.length%D.w:=(Nat.mod_eq_sub_mod h).symm
     rw [h3] at h2
     rw [h2]
     exact ⟨fun q _=>q.resolve_left h1,fun q=> .inr (q h)⟩
    ·have h1:P.length/D.w=0:=Nat.div_eq_of_lt (by omega)
     exact ⟨fun _ q=>absurd q h,fun _=> .inl h1⟩
   ·by_cases h:P.length%D.w=0
    ·exact ⟨fun _ q=>absurd h q,fun _=> .inl h⟩
    ·have h0:P.length≠0:=fun e=>h (by rw [e];simp)
     rw [he h0]
     exact ⟨fun q _=>q.resolve_left h,fun q=> .inr (q h)⟩
  have ih:=fun (hi:i<D.n)=>zqz ok L (P++[i]) (D.stepR r P.length i) (fun q h1 h2=>by
   rw [hl1] at h1 h2
   rw [zEr ok hi (Nat.mod_lt _ hw)]
   by_cases e:q=P.length
   ·subst e;rw [if_pos rfl,hPe]
   ·rw [if_neg (zLT (by omega) (by omega)),hPi q (by omega)]
    exact hs q (by omega) (by omega)) (fun _=>by
   rw [zAv ok hi,hl1,Nat.add_sub_cancel,hPe])
  have atP:((P++[i])++L).getD P.length 0=i:=by rw [hAl _ (by omega),hPe]
  show i<D.n∧D.can r P.length i=true∧D.run (P.length+1) (D.stepR r P.length i) L↔_
  rw [hA]
  constructor
  ·rintro ⟨hi,hc,hr⟩ q h1 h2
   by_cases e:q=P.length
   ·subst e
    obtain ⟨a,b,d⟩:=here.1 hc
    rw [atP]
    refine ⟨hi,a,fun h=>?_,fun h=>?_⟩
    ·rw [hAl _ (by omega),hPi _ (by omega)];exact b h
    ·have:P.length≠0:=fun e=>h (by rw [e];simp)
     rw [hAl _ (by omega),hPi _ (by omega)];exact d h
   ·rw [←hl1] at hr
    exact (ih hi).1 hr q (by omega) h2
  ·intro h
   have h0:=h P.length (Nat.le_refl _) (by simp)
   rw [atP] at h0
   obtain ⟨hi,a,b,d⟩:=h0
   refine ⟨hi,here.2 ⟨a,fun q=>?_,fun q=>?_⟩,?_⟩
   ·have:=b q
    rw [hAl _ (by omega),hPi _ (by omega)] at this;exact this
   ·have h0:P.length≠0:=fun e=>q (by rw [e];simp)
    have:=d q
    rw [hAl _ (by omega),hPi _ (by omega)] at this;exact this
   ·rw [←hl1]
    exact (ih hi).2 fun q h1 h2=>h q (by omega) h2
theorem fill_fit (ok:D.OK) {L:List Nat}:D.Fill L↔D.Fit L:=by
 have h:=zqz ok L [] 0 (fun q h=>by simp at h) (fun h=>by simp at h)
 unfold Fill Fit
 refine and_congr_right fun hl=>?_
 simp only [List.nil_append,List.length_nil,hl] at h
 refine h.trans ?_
 exact ⟨fun h q hq=>h q (Nat.zero_le _) hq,fun h q _ hq=>h q hq⟩
def bk (D:Dp) (st:Nat→Nat→Nat→Nat):Nat→Nat→Nat→Nat
 | 0,_,_=>1
 | m+1,p,r=>((List.range D.n).map fun i=>if D.can r p i=true then bk D st m (p+1) (st r p i) else 0).sum
def fls (D:Dp):Nat→Nat→Nat→List (List Nat)
 | 0,_,_=>[[]]
 | m+1,p,r=>(List.range D.n).flatMap fun i=>if D.can r p i=true then (fls D m (p+1) (D.stepR r p i)).map (i :: ·) else []
theorem fls_len:∀(m p r:Nat),(D.fls m p r).length=D.bk D.stepR m p r
 | 0,_,_=>rfl
 | m+1,p,r=>by
  unfold fls bk
  rw [List.length_flatMap]
  congr 1
  refine List.map_congr_left fun i _=>?_
  split
  ·rw [List.length_map,fls_len m]
  ·rfl
theorem mem_fls:∀(m p r:Nat) (L:List Nat),L∈D.fls m p r↔L.length=m∧D.run p r L
 | 0,p,r,L=>by
  unfold fls
  rw [List.mem_singleton]
  exact ⟨fun h=>by subst h;exact ⟨rfl,trivial⟩,fun h=>List.length_eq_zero_iff.1 h.1⟩
 | m+1,p,r,L=>by
  unfold fls
  rw [List.mem_flatMap]
  constructor
  ·rintro ⟨i,hi,h⟩
   split at h
   ·next hc=>
    obtain ⟨M,hM,rfl⟩:=List.mem_map.1 h
    obtain ⟨a,b⟩:=(mem_fls m _ _ M).1 hM
    exact ⟨by simp [a],List.mem_range.1 hi,hc,b⟩
   ·cases h
  ·rintro ⟨h1,h2⟩
   cases L with
   | nil=>simp at h1
   | cons i L=>
    refine ⟨i,List.mem_range.2 h2.1,?_⟩
    rw [if_pos h2.2.1]
    exact List.mem_map.2 ⟨L,(mem_fls m _ _ L).2 ⟨by simpa using h1,h2.2.2⟩,rfl⟩
theorem fls_nodup:∀(m p r:Nat),(D.fls m p r).Nodup
 | 0,_,_=>by simp [fls]
 | m+1,p,r=>by
  unfold fls
  have key:∀l:List Nat,l.Nodup→(l.flatMap fun i=>if D.can r p i=true then (D.fls m (p+1) (D.stepR r p i)).map (i :: ·) else []).Nodup:=by
   intro l
   induction l with
   | nil=>intro _;simp
   | cons a l ih=>
    intro h
    have h1:=List.nodup_cons.1 h
    rw [List.flatMap_cons]
    refine List.nodup_append.2 ⟨?_,ih h1.2,?_⟩
    ·split
     ·exact List.pairwise_map.2 ((fls_nodup m _ _).imp fun {x y} hne e=>hne (by simpa using e))
     ·exact List.nodup_nil
    ·intro x hx y hy e
     subst e
     split at hx
     ·obtain ⟨M,_,rfl⟩:=List.mem_map.1 hx
      obtain ⟨b,hb,hy⟩:=List.mem_flatMap.1 hy
      split at hy
      ·obtain ⟨M',_,e⟩:=List.mem_map.1 hy
       have:b=a:=by simpa using congrArg (fun l=>l.headD 0) e
       subst this
       exact h1.1 hb
      ·cases hy
     ·cases hx
  exact key _ List.nodup_range
theorem zHW (ok:D.OK):∀(m p r:Nat),D.bk D.stepI m p (D.rho p r)=D.bk D.stepR m p r
 | 0,_,_=>rfl
 | m+1,p,r=>by
  unfold bk
  congr 1
  refine List.map_congr_left fun i hi=>?_
  rw [Zu ok,←wt ok p r i (List.mem_range.1 hi),zHW ok m]
def fk (D:Dp) (l:Nat):Nat→Nat→Nat
 | 0,s=>if s=0 then 1 else 0
 | p+1,s=>((List.range l).map fun s'=>((List.range D.n).map fun i=>if D.can s' p i=true∧D.stepI s' p i=s then fk D l p s' else 0).sum).sum
theorem XA {α β :Type} (f: α → β →Nat):∀(l:List α) (m:List β),(l.map fun a=>(m.map fun b=>f a b).sum).sum=(m.map fun b=>(l.map fun a=>f a b).sum).sum
 | [],m=>by
  have:∀m:List β,(m.map fun _=>(0:Nat)).sum=0:=fun m=>by induction m with | nil=>rfl | cons b m ih=>simpa using ih
  simp [this]
 | a::l,m=>by
  have h:=XA f l m
  simp only [List.map_cons,List.sum_cons]
  rw [h]
  clear h
  induction m with
  | nil=>rfl
  | cons b m ih=>simp only [List.map_cons,List.sum_cons] at ih ⊢;omega
theorem Xd {α :Type} (f: α →Nat) (k:Nat):∀l:List α,(l.map f).sum*k=(l.map fun a=>f a*k).sum
 | []=>by simp
 | a::l=>by simp only [List.map_cons,List.sum_cons,Nat.add_mul,Xd f k l]
theorem zln {l x v:Nat} (hx:x<l) (g:Nat→Nat) (hg:∀s,s<l→g s=if x=s then v else 0):((List.range l).map g).sum=v:=by
 rw [List.map_congr_left (g:=fun s=>if x=s then v else 0) fun s hs=>hg s (List.mem_range.1 hs)]
 clear hg
 induction l with
 | zero=>omega
 | succ l ih=>
  rw [List.range_succ,List.map_append,List.sum_append]
  by_cases e:x=l
  ·subst e
   have:∀m,m≤x→((List.range m).map fun s=>if x=s then v else 0).sum=0:=fun m=>by
    induction m with
    | zero=>intro _;rfl
    | succ m ih2=>
     intro hm
     rw [List.range_succ,List.map_append,List.sum_append,ih2 (by omega)]
     simp;omega
   rw [this x (Nat.le_refl _)]
   simp
  ·rw [ih (by omega)]
   simp [e]
theorem zJd (ok:D.OK) {l:Nat} (hl:l=D.c^(D.w+1)) (p m:Nat):((List.range l).map fun s=>D.fk l (p+1) s*D.bk D.stepI m (p+1) s).sum=((List.range l).map fun s=>D.fk l p s*D.bk D.stepI (m+1) p s).sum:=by
 have e1:∀s,D.fk l (p+1) s*D.bk D.stepI m (p+1) s=((List.range l).map fun s'=>((List.range D.n).map fun i=>if D.can s' p i=true∧D.stepI s' p i=s then D.fk l p s'*D.bk D.stepI m (p+1) s else 0).sum).sum:=fun s=>by
  show ((List.range l).map fun s'=>((List.range D.n).map fun i=>if D.can s' p i=true∧D.stepI s' p i=s then D.fk l p s' else 0).sum).sum*_=_
  rw [Xd]
  congr 1
  refine List.map_congr_left fun s' _=>?_
  rw [Xd]
  congr 1
  refine List.map_congr_left fun i _=>?_
  split <;> simp
 rw [List.map_congr_left fun s _=>e1 s,XA]
 congr 1
 refine List.map_congr_left fun s' _=>?_
 rw [XA]
 have eb:D.bk D.stepI (m+1) p s'=((List.range D.n).map fun i=>if D.can s' p i=true then D.bk D.stepI m (p+1) (D.stepI s' p i) else 0).sum:=rfl
 rw [eb,Nat.mul_comm,Xd]
 congr 1
 refine List.map_congr_left fun i hi=>?_
 have hlt:=stepI_lt ok (p:=p) (r:=s') (List.mem_range.1 hi)
 rw [←hl] at hlt
 by_cases hc:D.can s' p i=true
 ·rw [if_pos hc]
  refine zln (x:=D.stepI s' p i) hlt _ fun s _=>?_
  by_cases e:D.stepI s' p i=s
  ·rw [if_pos ⟨hc,e⟩,if_pos e,e,Nat.mul_comm]
  ·rw [if_neg fun h=>e h.2,if_neg e]
 ·rw [if_neg hc,Nat.zero_mul]
  have:∀m:List Nat,(m.map fun s=>if D.can s' p i=true∧D.stepI s' p i=s then D.fk l p s'*D.bk D.stepI m.length (p+1) s else 0)=m.map fun _=>0:=fun m=>List.map_congr_left fun s _=>by rw [if_neg fun h=>hc h.1]
  rw [List.map_congr_left (g:=fun _=>0) fun s _=>by rw [if_neg fun h=>hc h.1]]
  have z:∀m:List Nat,(m.map fun _=>(0:Nat)).sum=0:=fun m=>by induction m with | nil=>rfl | cons b m ih=>simpa using ih
  exact z _
theorem zEU (ok:D.OK) {l:Nat} (hl:l=D.c^(D.w+1)):∀(p m:Nat),((List.range l).map fun s=>D.fk l p s*D.bk D.stepI m p s).sum=D.bk D.stepI (p+m) 0 0
 | 0,m=>by
  have hl0:0<l:=by rw [hl];exact Nat.pow_pos ok.hc
  rw [Nat.zero_add]
  refine zln (x:=0) hl0 _ fun s _=>?_
  show (if s=0 then 1 else 0)*_=_
  by_cases e:s=0
  ·subst e;simp
  ·rw [if_neg e,if_neg (Ne.symm e),Nat.zero_mul]
 | p+1,m=>by rw [zJd ok hl,zEU ok hl p (m+1),show p+(m+1)=p+1+m by omega]
def cntZ (D:Dp):Nat:=D.bk D.stepR D.size 0 0
theorem fk_total (ok:D.OK) {l:Nat} (hl:l=D.c^(D.w+1)):((List.range l).map fun s=>D.fk l D.size s).sum=D.cntZ:=by
 have h:=zEU ok hl D.size 0
 have h0:D.rho 0 0=0:=by unfold rho;simp
 have e:=zHW ok D.size 0 0
 rw [h0] at e
 unfold cntZ
 rw [←e,←Nat.add_zero D.size,←h]
 congr 1
 refine List.map_congr_left fun s _=>?_
 simp [bk]
theorem fk_pos {l:Nat} (ok:D.OK) (hl:l=D.c^(D.w+1)):∀(p s:Nat),0<D.fk l p s↔D.reach D.stepI p s
 | 0,s=>by
  show 0<(if s=0 then 1 else 0)↔s=0
  by_cases e:s=0
  ·simp [e]
  ·simp [e]
 | p+1,s=>by
  have pos:∀{α :Type} (f: α →Nat) (l:List α),0<(l.map f).sum↔∃a∈l,0<f a:=fun {α} f l=>by
   induction l with
   | nil=>simp
   | cons a l ih=>
    simp only [List.map_cons,List.sum_cons,List.mem_cons,exists_eq_or_imp,←ih]
    omega
  show 0<((List.range l).map fun s'=>((List.range D.n).map fun i=>if D.can s' p i=true∧D.stepI s' p i=s then D.fk l p s' else 0).sum).sum↔_
  rw [pos]
  constructor
  ·rintro ⟨s',hs',h⟩
   obtain ⟨i,hi,h⟩:=(pos _ _).1 h
   split at h
   ·next hc=>exact ⟨s',i,(fk_pos ok hl p s').1 h,List.mem_range.1 hi,hc.1,hc.2.symm⟩
   ·omega
  ·rintro ⟨s',i,h1,hi,h2,h3⟩
   refine ⟨s',List.mem_range.2 (by rw [hl];exact reach_lt ok p s' h1),(pos _ _).2 ⟨i,List.mem_range.2 hi,?_⟩⟩
   rw [if_pos ⟨h2,h3.symm⟩]
   exact (fk_pos ok hl p s').2 h1
theorem cntZ_pos:0<D.cntZ↔D.left 0 0:=by
 unfold cntZ
 rw [←fls_len,left_fill,List.length_pos_iff_exists_mem]
 constructor
 ·rintro ⟨L,h⟩;exact ⟨L,(mem_fls _ _ _ _).1 h⟩
 ·rintro ⟨L,h⟩;exact ⟨L,(mem_fls _ _ _ _).2 h⟩
end Dp
end Go.Proofs.YtlcgclmobfdbcaaGreat.Cl
set_option linter.unusedVariables false
namespace Go.Proofs.YtlcgclmobfdbcaaGreat.Cl
open Go
def xi:Nat→List Nat:=fun i=>bif i==1006 then [12] else bif i==2006 then [0,0,2,7,15,31,63,127,255,511,1023,2047,4095,8191,16383,4095,65535,131071,4095,266239,1048575,2097151,4194303,8388607,8388607,25165823,67108863,134217727,268435455,536870911,1073741823,2147483647,4294967295,8589934591,17179869183,34359738367,68719476735,137438953471,34359738367,549755813887,1099511627775,34359738367,2233382993919,8796093022207,17592186044415,35184372088831,70368744177663] else bif i==1005 then [12] else bif i==1004 then [2,3,4,13,14,15,87] else bif i==2004 then [0,1,3,7,15,31,63,127,255,511,1023,2047,4095,1023,16383,32767,1023,66559,262143,524287,1048575,2097151,4194303,8388607,16777215,33554431,67108863,134217727,268435455,536870911,1073741823,2147483647,4294967295,8589934591,2147483647,34359738367,68719476735,2147483647,139586437119,549755813887,1099511627775,2199023255551] else bif i==1003 then [2,3,4,13,14,15] else bif i==2003 then [0,1,0,4,12,28,0,64,0,448,960,0,2051,6207,16383] else bif i==1002 then [12] else bif i==1001 then [1,2,3,4,5,6,34] else bif i==1000 then [1,2,3,4,5,6] else []
theorem zxa:(za Tryz.f154) = .seq (sq Tryz.f154 1 0) (sq Tryz.f154 1 1):=by kernel_rfl
def zmx (S:SatT) (K:KT):Kont:=kSeq (cwp S tab xi [] (sq Tryz.f154 1 1) (kFun tab (Tryz.f154).results.toList K)) (kFun tab (Tryz.f154).results.toList K)
def zkb (s1_ s2_:Sl) (i3_ i4_ i5_:Int) (p6_:Pt):Frame:=(U :: .sl s1_ :: .sl s2_ :: .int .i64 i3_ :: .int .i64 i4_ :: .int .i64 i5_ :: .ptr p6_::uu 127 [])
def WU (S:SatT) (k:Kont) (x0:List AVal) (x1 x2:Sl) (x3 x4 x5:Int) (h:H):Prop:=
 newK 2 x0 h fun p0 h1=>
 k .normal (zkb x1 x2 x3 x4 x5 p0) h1
theorem QV (S:SatT) (k:Kont) (m:List Nat) (x0:List AVal) (x1 x2:Sl) (x3 x4 x5:Int) (h:H):cwp S tab xi m (sq Tryz.f154 1 0) k (fr0 Tryz.f154 [.agg x0,.sl x1,.sl x2,.int .i64 x3,.int .i64 x4,.int .i64 x5]) h=WU S k x0 x1 x2 x3 x4 x5 h:=by kernel_rfl
theorem zwZ:(sq Tryz.f154 1 1) = .seq (sq Tryz.f154 2 2) (sq Tryz.f154 2 3):=by kernel_rfl
theorem zwY:(sq Tryz.f154 2 2) = .seq (sq Tryz.f154 3 4) (sq Tryz.f154 3 5):=by kernel_rfl
def Xp (S:SatT) (K:KT):Kont:=kSeq (cwp S tab xi [] (sq Tryz.f154 2 3) (kFun tab (Tryz.f154).results.toList K)) (kFun tab (Tryz.f154).results.toList K)
def zmw (S:SatT) (K:KT):Kont:=kSeq (cwp S tab xi [] (sq Tryz.f154 3 5) (Xp S K)) (Xp S K)
def WV (s1_ s2_:Sl) (i3_ i4_ i5_:Int) (p6_:Pt) (b34_:Bool):Frame:=(U :: .sl s1_ :: .sl s2_ :: .int .i64 i3_ :: .int .i64 i4_ :: .int .i64 i5_ :: .ptr p6_::uu 27 (.bool b34_::uu 99 []))
def WT (S:SatT) (k:Kont) (s1_ s2_:Sl) (i3_ i4_ i5_:Int) (p6_:Pt) (h:H):Prop:=
 ixS s1_ 1 i3_ fun p0=>
 ldS p0 h fun s1=>
 ixS s1 1 i4_ fun p2=>
 ldI .i64 p2 h fun n3=>
 bif (decide (n3≥(0))) then
 ixS s1_ 1 i3_ fun p4=>
 ldS p4 h fun s5=>
 ixS s5 1 i4_ fun p6=>
 ldI .i64 p6 h fun n7=>
 k .normal (WV s1_ s2_ i3_ i4_ i5_ p6_ (n7 != i5_)) h
 else
 k .normal (WV s1_ s2_ i3_ i4_ i5_ p6_ false) h
theorem QU (S:SatT) (k:Kont) (m:List Nat) (s1_ s2_:Sl) (i3_ i4_ i5_:Int) (p6_:Pt) (h:H):cwp S tab xi m (sq Tryz.f154 3 4) k (zkb s1_ s2_ i3_ i4_ i5_ p6_) h=WT S k s1_ s2_ i3_ i4_ i5_ p6_ h:=by kernel_rfl
theorem zwX:(sq Tryz.f154 3 5) = .cond (.tmp 34) (sq Tryz.f154 4 10) (sq Tryz.f154 4 11):=by kernel_rfl
theorem zwW:(sq Tryz.f154 4 10) = .seq (sq Tryz.f154 5 20) (sq Tryz.f154 5 21):=by kernel_rfl
def zmv (S:SatT) (K:KT):Kont:=kSeq (cwp S tab xi [] (sq Tryz.f154 5 21) (Xp S K)) (Xp S K)
def zxf (b12_:Bool):Frame:=(uu 12 (.bool b12_::uu 121 []))
def WS (S:SatT) (k:Kont) (s1_ s2_:Sl) (i3_ i4_ i5_:Int) (p6_:Pt) (b34_:Bool) (h:H):Prop:=
 k .normal (zxf false) h
theorem QT (S:SatT) (k:Kont) (m:List Nat) (s1_ s2_:Sl) (i3_ i4_ i5_:Int) (p6_:Pt) (b34_:Bool) (h:H):cwp S tab xi m (sq Tryz.f154 5 20) k (WV s1_ s2_ i3_ i4_ i5_ p6_ b34_) h=WS S k s1_ s2_ i3_ i4_ i5_ p6_ b34_ h:=by kernel_rfl
theorem zwV:(sq Tryz.f154 5 21) = .ret:=by kernel_rfl
def zxd (S:SatT) (K:KT) (b12_:Bool) (h:H):Prop:=
 K (.bool b12_) h
theorem zxk (S:SatT) (K:KT) (b12_:Bool) (h:H):(zmv S K) .normal (zxf b12_) h=zxd S K b12_ h:=by
 unfold zxd
 refine (zm _ _ _ _).trans ?_
 refine (yu zwV).trans ?_
 refine (Wa _ _ _ _).trans ?_
 kernel_rfl
theorem zwU:(sq Tryz.f154 4 11) = .skip:=by kernel_rfl
theorem zwT:(sq Tryz.f154 2 3) = .seq (sq Tryz.f154 3 6) (sq Tryz.f154 3 7):=by kernel_rfl
def zmu (S:SatT) (K:KT):Kont:=kSeq (cwp S tab xi [] (sq Tryz.f154 3 7) (kFun tab (Tryz.f154).results.toList K)) (kFun tab (Tryz.f154).results.toList K)
def zka (s2_:Sl) (i3_ i4_:Int) (i13_ i14_:Int) (p15_:Pt):Frame:=(U::U :: .sl s2_ :: .int .i64 i3_ :: .int .i64 i4_::uu 8 (.int .i64 i13_ :: .int .i64 i14_ :: .ptr p15_::uu 118 []))
def WR (S:SatT) (k:Kont) (s1_ s2_:Sl) (i3_ i4_ i5_:Int) (p6_:Pt) (b34_:Bool) (h:H):Prop:=
 ixS s1_ 1 (0) fun p0=>
 ldS p0 h fun s1=>
 isPt p6_ (
 ldS (Pt.add p6_ 1) h fun s2=>
 ixS s2 4 i5_ fun p3=>
 ldA p3 4 h fun cs4=>
 newO [.int .i64 (0),.int .i64 (0),.int .i64 (0),.int .i64 (0)] h fun p5 h6=>
(range h6 p3.o p3.n p3.off 4=range h p3.o p3.n p3.off 4)∧(
(cell h6 (Pt.add p6_ 1)=cell h (Pt.add p6_ 1))∧(
(cell h6 p0=cell h p0)∧(
 stN p5 4 cs4 h6 fun h7=>
 k .normal (zka s2_ i3_ i4_ (s1_.len:Int) (s1.len:Int) p5) h7))))
theorem QS (S:SatT) (k:Kont) (m:List Nat) (s1_ s2_:Sl) (i3_ i4_ i5_:Int) (p6_:Pt) (b34_:Bool) (h:H):cwp S tab xi m (sq Tryz.f154 3 6) k (WV s1_ s2_ i3_ i4_ i5_ p6_ b34_) h=WR S k s1_ s2_ i3_ i4_ i5_ p6_ b34_ h:=by kernel_rfl
theorem zwS:(sq Tryz.f154 3 7) = .seq (sq Tryz.f154 4 14) (sq Tryz.f154 4 15):=by kernel_rfl
theorem zwR:(sq Tryz.f154 4 14) = .seq (sq Tryz.f154 5 28) (sq Tryz.f154 5 29):=by kernel_rfl
def Xo (S:SatT) (K:KT):Kont:=kSeq (cwp S tab xi [] (sq Tryz.f154 4 15) (kFun tab (Tryz.f154).results.toList K)) (kFun tab (Tryz.f154).results.toList K)
def qA (S:SatT) (K:KT):Kont:=kSeq (cwp S tab xi [] (sq Tryz.f154 5 29) (Xo S K)) (Xo S K)
def yF (s2_:Sl) (i3_ i4_:Int) (i13_ i14_:Int) (p15_:Pt) (b87_:Bool):Frame:=(U::U :: .sl s2_ :: .int .i64 i3_ :: .int .i64 i4_::uu 8 (.int .i64 i13_ :: .int .i64 i14_ :: .ptr p15_::uu 71 (.bool b87_::uu 46 [])))
def WQ (S:SatT) (k:Kont) (s2_:Sl) (i3_ i4_:Int) (i13_ i14_:Int) (p15_:Pt) (h:H):Prop:=
 bif (i4_==(0)) then
 ixS s2_ 1 (0) fun p0=>
 ldS p0 h fun s1=>
 bif (decide ((s1.len:Int)>(0))) then
 ixS s2_ 1 (0) fun p2=>
 ldS p2 h fun s3=>
 ixS s3 1 i3_ fun p4=>
 ldI .i64 p4 h fun n5=>
 ixA p15_ 4 1 (0) fun p6=>
 ldI .i64 p6 h fun n7=>
 bif (n5 != n7) then
 k .normal (yF s2_ i3_ i4_ i13_ i14_ p15_ true) h
 else
 bif (i3_==(0)) then
 ixS s2_ 1 (1) fun p8=>
 ldS p8 h fun s9=>
 bif (decide ((s9.len:Int)>(0))) then
 ixS s2_ 1 (1) fun p10=>
 ldS p10 h fun s11=>
 ixS s11 1 i4_ fun p12=>
 ldI .i64 p12 h fun n13=>
 ixA p15_ 4 1 (1) fun p14=>
 ldI .i64 p14 h fun n15=>
 k .normal (yF s2_ i3_ i4_ i13_ i14_ p15_ (n13 != n15)) h
 else
 k .normal (yF s2_ i3_ i4_ i13_ i14_ p15_ false) h
 else
 k .normal (yF s2_ i3_ i4_ i13_ i14_ p15_ false) h
 else
 bif (i3_==(0)) then
 ixS s2_ 1 (1) fun p16=>
 ldS p16 h fun s17=>
 bif (decide ((s17.len:Int)>(0))) then
 ixS s2_ 1 (1) fun p18=>
 ldS p18 h fun s19=>
 ixS s19 1 i4_ fun p20=>
 ldI .i64 p20 h fun n21=>
 ixA p15_ 4 1 (1) fun p22=>
 ldI .i64 p22 h fun n23=>
 k .normal (yF s2_ i3_ i4_ i13_ i14_ p15_ (n21 != n23)) h
 else
 k .normal (yF s2_ i3_ i4_ i13_ i14_ p15_ false) h
 else
 k .normal (yF s2_ i3_ i4_ i13_ i14_ p15_ false) h
 else
 bif (i3_==(0)) then
 ixS s2_ 1 (1) fun p24=>
 ldS p24 h fun s25=>
 bif (decide ((s25.len:Int)>(0))) then
 ixS s2_ 1 (1) fun p26=>
 ldS p26 h fun s27=>
 ixS s27 1 i4_ fun p28=>
 ldI .i64 p28 h fun n29=>
 ixA p15_ 4 1 (1) fun p30=>
 ldI .i64 p30 h fun n31=>
 k .normal (yF s2_ i3_ i4_ i13_ i14_ p15_ (n29 != n31)) h
 else
 k .normal (yF s2_ i3_ i4_ i13_ i14_ p15_ false) h
 else
 k .normal (yF s2_ i3_ i4_ i13_ i14_ p15_ false) h
theorem QR (S:SatT) (k:Kont) (m:List Nat) (s2_:Sl) (i3_ i4_:Int) (i13_ i14_:Int) (p15_:Pt) (h:H):cwp S tab xi m (sq Tryz.f154 5 28) k (zka s2_ i3_ i4_ i13_ i14_ p15_) h=WQ S k s2_ i3_ i4_ i13_ i14_ p15_ h:=by kernel_rfl
theorem zwQ:(sq Tryz.f154 5 29) = .cond (.tmp 87) (sq Tryz.f154 6 58) (sq Tryz.f154 6 59):=by kernel_rfl
theorem zwP:(sq Tryz.f154 6 58) = .seq (sq Tryz.f154 7 116) (sq Tryz.f154 7 117):=by kernel_rfl
def zmt (S:SatT) (K:KT):Kont:=kSeq (cwp S tab xi [] (sq Tryz.f154 7 117) (Xo S K)) (Xo S K)
def zxe (b12_:Bool):Frame:=(uu 12 (.bool b12_::uu 121 []))
def WP (S:SatT) (k:Kont) (s2_:Sl) (i3_ i4_:Int) (i13_ i14_:Int) (p15_:Pt) (b87_:Bool) (h:H):Prop:=
 k .normal (zxe false) h
theorem QQ (S:SatT) (k:Kont) (m:List Nat) (s2_:Sl) (i3_ i4_:Int) (i13_ i14_:Int) (p15_:Pt) (b87_:Bool) (h:H):cwp S tab xi m (sq Tryz.f154 7 116) k (yF s2_ i3_ i4_ i13_ i14_ p15_ b87_) h=WP S k s2_ i3_ i4_ i13_ i14_ p15_ b87_ h:=by kernel_rfl
theorem zwO:(sq Tryz.f154 7 117) = .ret:=by kernel_rfl
def zxc (S:SatT) (K:KT) (b12_:Bool) (h:H):Prop:=
 K (.bool b12_) h
theorem zxh (S:SatT) (K:KT) (b12_:Bool) (h:H):(zmt S K) .normal (zxe b12_) h=zxc S K b12_ h:=by
 unfold zxc
 refine (zm _ _ _ _).trans ?_
 refine (yu zwO).trans ?_
 refine (Wa _ _ _ _).trans ?_
 kernel_rfl
theorem zwN:(sq Tryz.f154 6 59) = .skip:=by kernel_rfl
theorem zwM:(sq Tryz.f154 4 15) = .seq (sq Tryz.f154 5 30) (sq Tryz.f154 5 31):=by kernel_rfl
def qz (S:SatT) (K:KT):Kont:=kSeq (cwp S tab xi [] (sq Tryz.f154 5 31) (kFun tab (Tryz.f154).results.toList K)) (kFun tab (Tryz.f154).results.toList K)
def yT (b12_:Bool):Frame:=(uu 12 (.bool b12_::uu 121 []))
def WO (S:SatT) (k:Kont) (s2_:Sl) (i3_ i4_:Int) (i13_ i14_:Int) (p15_:Pt) (b87_:Bool) (h:H):Prop:=
 bif (i4_ != (w64 (i14_-(1)))) then
 bif (i3_ != (w64 (i13_-(1)))) then
 k .normal (yT true) h
 else
 ixS s2_ 1 (3) fun p0=>
 ldS p0 h fun s1=>
 bif ((s1.len:Int)==(0)) then
 k .normal (yT true) h
 else
 ixS s2_ 1 (3) fun p2=>
 ldS p2 h fun s3=>
 ixS s3 1 i4_ fun p4=>
 ldI .i64 p4 h fun n5=>
 ixA p15_ 4 1 (3) fun p6=>
 ldI .i64 p6 h fun n7=>
 k .normal (yT (n5==n7)) h
 else
 ixS s2_ 1 (2) fun p8=>
 ldS p8 h fun s9=>
 bif ((s9.len:Int)==(0)) then
 bif (i3_ != (w64 (i13_-(1)))) then
 k .normal (yT true) h
 else
 ixS s2_ 1 (3) fun p10=>
 ldS p10 h fun s11=>
 bif ((s11.len:Int)==(0)) then
 k .normal (yT true) h
 else
 ixS s2_ 1 (3) fun p12=>
 ldS p12 h fun s13=>
 ixS s13 1 i4_ fun p14=>
 ldI .i64 p14 h fun n15=>
 ixA p15_ 4 1 (3) fun p16=>
 ldI .i64 p16 h fun n17=>
 k .normal (yT (n15==n17)) h
 else
 ixS s2_ 1 (2) fun p18=>
 ldS p18 h fun s19=>
 ixS s19 1 i3_ fun p20=>
 ldI .i64 p20 h fun n21=>
 ixA p15_ 4 1 (2) fun p22=>
 ldI .i64 p22 h fun n23=>
 bif (n21==n23) then
 bif (i3_ != (w64 (i13_-(1)))) then
 k .normal (yT true) h
 else
 ixS s2_ 1 (3) fun p24=>
 ldS p24 h fun s25=>
 bif ((s25.len:Int)==(0)) then
 k .normal (yT true) h
 else
 ixS s2_ 1 (3) fun p26=>
 ldS p26 h fun s27=>
 ixS s27 1 i4_ fun p28=>
 ldI .i64 p28 h fun n29=>
 ixA p15_ 4 1 (3) fun p30=>
 ldI .i64 p30 h fun n31=>
 k .normal (yT (n29==n31)) h
 else
 k .normal (yT false) h
theorem QP (S:SatT) (k:Kont) (m:List Nat) (s2_:Sl) (i3_ i4_:Int) (i13_ i14_:Int) (p15_:Pt) (b87_:Bool) (h:H):cwp S tab xi m (sq Tryz.f154 5 30) k (yF s2_ i3_ i4_ i13_ i14_ p15_ b87_) h=WO S k s2_ i3_ i4_ i13_ i14_ p15_ b87_ h:=by kernel_rfl
theorem zwL:(sq Tryz.f154 5 31) = .ret:=by kernel_rfl
def zxb (S:SatT) (K:KT) (b12_:Bool) (h:H):Prop:=
 K (.bool b12_) h
theorem zxg (S:SatT) (K:KT) (b12_:Bool) (h:H):(qz S K) .normal (yT b12_) h=zxb S K b12_ h:=by
 unfold zxb
 refine (zm _ _ _ _).trans ?_
 refine (yu zwL).trans ?_
 kernel_rfl
def zjX (S:SatT) (K:KT) (s2_:Sl) (i3_ i4_:Int) (i13_ i14_:Int) (p15_:Pt) (b87_:Bool) (h:H):Prop:=
 bif b87_ then
 WP S (zmt S K) s2_ i3_ i4_ i13_ i14_ p15_ b87_ h
 else
 WO S (qz S K) s2_ i3_ i4_ i13_ i14_ p15_ b87_ h
theorem zxi (S:SatT) (K:KT) (s2_:Sl) (i3_ i4_:Int) (i13_ i14_:Int) (p15_:Pt) (b87_:Bool) (h:H):(qA S K) .normal (yF s2_ i3_ i4_ i13_ i14_ p15_ b87_) h=zjX S K s2_ i3_ i4_ i13_ i14_ p15_ b87_ h:=by
 unfold zjX
 refine (zm _ _ _ _).trans ?_
 refine (zD zwQ (t:=b87_) rfl).trans (z8 ?_ ?_)
 ·refine (ze zwP).trans ?_
  exact QQ S _ _ s2_ i3_ i4_ i13_ i14_ p15_ b87_ h
 ·refine (zI zwN).trans ?_
  refine (zm _ _ _ _).trans ?_
  refine (ze zwM).trans ?_
  exact QP S _ _ s2_ i3_ i4_ i13_ i14_ p15_ b87_ h
def zjY (S:SatT) (K:KT) (s2_:Sl) (i3_ i4_:Int) (i13_ i14_:Int) (p15_:Pt) (h:H):Prop:=
 WQ S (qA S K) s2_ i3_ i4_ i13_ i14_ p15_ h
theorem zxj (S:SatT) (K:KT) (s2_:Sl) (i3_ i4_:Int) (i13_ i14_:Int) (p15_:Pt) (h:H):(zmu S K) .normal (zka s2_ i3_ i4_ i13_ i14_ p15_) h=zjY S K s2_ i3_ i4_ i13_ i14_ p15_ h:=by
 unfold zjY
 refine (zm _ _ _ _).trans ?_
 refine (ze zwS).trans ?_
 refine (ze zwR).trans ?_
 exact QR S _ _ s2_ i3_ i4_ i13_ i14_ p15_ h
def zfX (S:SatT) (K:KT) (s1_ s2_:Sl) (i3_ i4_ i5_:Int) (p6_:Pt) (b34_:Bool) (h:H):Prop:=
 bif b34_ then
 WS S (zmv S K) s1_ s2_ i3_ i4_ i5_ p6_ b34_ h
 else
 WR S (zmu S K) s1_ s2_ i3_ i4_ i5_ p6_ b34_ h
theorem zig (S:SatT) (K:KT) (s1_ s2_:Sl) (i3_ i4_ i5_:Int) (p6_:Pt) (b34_:Bool) (h:H):(zmw S K) .normal (WV s1_ s2_ i3_ i4_ i5_ p6_ b34_) h=zfX S K s1_ s2_ i3_ i4_ i5_ p6_ b34_ h:=by
 unfold zfX
 refine (zm _ _ _ _).trans ?_
 refine (zD zwX (t:=b34_) rfl).trans (z8 ?_ ?_)
 ·refine (ze zwW).trans ?_
  exact QT S _ _ s1_ s2_ i3_ i4_ i5_ p6_ b34_ h
 ·refine (zI zwU).trans ?_
  refine (zm _ _ _ _).trans ?_
  refine (ze zwT).trans ?_
  exact QS S _ _ s1_ s2_ i3_ i4_ i5_ p6_ b34_ h
def zjZ (S:SatT) (K:KT) (s1_ s2_:Sl) (i3_ i4_ i5_:Int) (p6_:Pt) (h:H):Prop:=
 WT S (zmw S K) s1_ s2_ i3_ i4_ i5_ p6_ h
theorem zxl (S:SatT) (K:KT) (s1_ s2_:Sl) (i3_ i4_ i5_:Int) (p6_:Pt) (h:H):(zmx S K) .normal (zkb s1_ s2_ i3_ i4_ i5_ p6_) h=zjZ S K s1_ s2_ i3_ i4_ i5_ p6_ h:=by
 unfold zjZ
 refine (zm _ _ _ _).trans ?_
 refine (ze zwZ).trans ?_
 refine (ze zwY).trans ?_
 exact QU S _ _ s1_ s2_ i3_ i4_ i5_ p6_ h
def ZV (S:SatT) (K:KT) (x0:List AVal) (x1 x2:Sl) (x3 x4 x5:Int) (h:H):Prop:=
 WU S (zmx S K) x0 x1 x2 x3 x4 x5 h
theorem QO (S:SatT) (K:KT) (x0:List AVal) (x1 x2:Sl) (x3 x4 x5:Int) (h:H):cwp S tab xi [] (za Tryz.f154) (kFun tab Tryz.f154.results.toList K) (fr0 Tryz.f154 [.agg x0,.sl x1,.sl x2,.int .i64 x3,.int .i64 x4,.int .i64 x5]) h=ZV S K x0 x1 x2 x3 x4 x5 h:=by
 unfold ZV
 refine (ze zxa).trans ?_
 exact QV S _ _ x0 x1 x2 x3 x4 x5 h
theorem zxm (x0:List AVal) (x1:Sl) (x2:Sl) (x3:Int) (x4:Int) (x5:Int) (h:H) (K:Bool→H→Prop) (hm:ZV (Sat Tryz.prog) (fun v h'=>∃r,v = .bool r∧K r h') x0 x1 x2 x3 x4 x5 h):callB (Sat Tryz.prog) zlP [.agg x0,.sl x1,.sl x2,.int .i64 x3,.int .i64 x4,.int .i64 x5] h K:=by
 have:=Sat.ex tok mixed xi Tryz.func154 (c:=za Tryz.f154) (by kernel_rfl) (zd Tryz.func154 (c:=za Tryz.f154) (by kernel_rfl) (by decide)) ((QO _ _ x0 x1 x2 x3 x4 x5 h).mpr hm)
 obtain ⟨v,h2,h3,r,rfl,h4⟩:=this;exact ⟨r,h2,h3,h4⟩
end Go.Proofs.YtlcgclmobfdbcaaGreat.Cl
set_option linter.unusedVariables false
set_option linter.unusedSimpArgs false
namespace Go.Proofs.YtlcgclmobfdbcaaGreat.Cl
open Go
def brd (ts:List Tile) (borders:List (List Int)) (side k i:Nat):Bool:=(rw_ borders side).length==0||G borders side k==sd (tat ts i) side
def bOK (ts:List Tile) (plan borders:List (List Int)) (y x i:Nat):Bool:=
 !(decide (G plan y x≥0)&&G plan y x != (i:Int))&&(!((x==0 && !brd ts borders 0 y i)||(y==0 && !brd ts borders 1 x i)) &&
  ((x+1 != (rw_ plan 0).length||brd ts borders 2 y i)&&(y+1 != plan.length||brd ts borders 3 x i)))
def dpOf (c:Int) (ts:List Tile) (plan borders:List (List Int)):Dp where
 n:=ts.length
 c:=c.toNat
 w:=(rw_ plan 0).length
 size:=plan.length*(rw_ plan 0).length
 B:=fun p i=>bOK ts plan borders (p/(rw_ plan 0).length) (p%(rw_ plan 0).length) i
 we:=fun i=>(sd (tat ts i) 0).toNat
 no:=fun i=>(sd (tat ts i) 1).toNat
 ea:=fun i=>(sd (tat ts i) 2).toNat
 so:=fun i=>(sd (tat ts i) 3).toNat
def zJ (c:Int) (n:Nat) (plan borders:List (List Int)):Prop:=
 Tabl plan 5∧(∀y x,y<plan.length→x<(rw_ plan y).length→ -1≤G plan y x∧G plan y x<n)∧borders.length=4∧
  ∀k,k<4→((rw_ borders k).length=0∨(rw_ borders k).length=if k%2=1 then (rw_ plan 0).length else plan.length)∧∀j,j<(rw_ borders k).length→0≤G borders k j∧G borders k j≤c-1
theorem ziS {c:Int} {ts:List Tile} (hs:setOK c ts) {i:Nat} (hi:i<ts.length) {k:Nat} (hk:k<4):0≤sd (tat ts i) k∧sd (tat ts i) k<c:=by
 have h:=(hs.2.2 i hi).1
 unfold Zx at h
 simp only [Bool.and_eq_true,decide_eq_true_eq] at h
 match k,hk with
 | 0,_=>show 0≤(tat ts i).1∧(tat ts i).1<c;omega
 | 1,_=>show 0≤(tat ts i).2.1∧(tat ts i).2.1<c;omega
 | 2,_=>show 0≤(tat ts i).2.2.1∧(tat ts i).2.2.1<c;omega
 | 3,_=>show 0≤(tat ts i).2.2.2∧(tat ts i).2.2.2<c;omega
theorem wF {c:Int} {ts:List Tile} {plan borders:List (List Int)} (hs:setOK c ts) (hp:zJ c ts.length plan borders):(dpOf c ts plan borders).OK:=by
 have hc:=hs.1
 have hw:=(hp.1.2 0 (by have:=hp.1.1;omega)).2
 have side:∀i k,i<ts.length→k<4→(sd (tat ts i) k).toNat<c.toNat:=fun i k hi hk=>by have:=ziS hs hi hk;omega
 exact ⟨by show 0<c.toNat;omega,by show 0<(rw_ plan 0).length;omega,fun i hi=>side i 0 hi (by omega),fun i hi=>side i 1 hi (by omega),fun i hi=>side i 2 hi (by omega),fun i hi=>side i 3 hi (by omega)⟩
theorem zV {c k:Nat} (hc:c≤6) (hk:k≤6):c^k≤46656:=
 Nat.le_trans (Nat.pow_le_pow_left hc k) (Nat.le_trans (Nat.pow_le_pow_right (by omega) hk) (by decide))
theorem zcq {c k:Nat} (hc:c≤6) (hk:k≤6) (h:H):callI SP .i64 zcx [i64 c,i64 k] h fun n h'=>n=((c^k:Nat):Int)∧h'=h:=by
 apply zCC
 unfold zdw
 refine ztz _ _ _ (fun i v g=>∃j:Nat,i=((k-j:Nat):Int)∧j≤k∧v=((c^j:Nat):Int)∧g=h) (fun i _ _=>i.toNat) ?_ _ _ ⟨0,by simp,by omega,by simp,rfl⟩
 rintro X _ _ _ ⟨j,rfl,hj,rfl,rfl⟩ hX
 unfold ztB zGf
 refine zc (fun hi=>?_) (fun hi=>⟨_,rfl,by rw [show j=k by omega],rfl⟩)
 have hb:=zV hc (k:=j+1) (by omega)
 rw [Nat.pow_succ] at hb
 rw [zf (n:=((k-j:Nat):Int)-1) (by omega) (by omega),show ((c^j:Nat):Int)*(c:Int)=((c^j*c:Nat):Int) by push_cast;rfl,zf (n:=((c^j*c:Nat):Int)) (by omega) (by omega)]
 exact hX _ _ _ ⟨j+1,by omega,by omega,by rw [Nat.pow_succ],rfl⟩ (by omega)
theorem zAu {c k s:Nat} (hc0:0<c) (hc:c≤6) (hk:k≤6) (hs:s≤46656) (h:H):callI SP .i64 zbs [i64 s,i64 c,i64 k] h fun n h'=>n=((dig c s k:Nat):Int)∧h'=h:=by
 apply zwK
 unfold WN
 refine (zcq hc hk h).to ?_
 rintro _ _ ⟨rfl,rfl⟩
 have hp:0<c^k:=Nat.pow_pos hc0
 have hd:s/c^k≤s:=Nat.div_le_self _ _
 refine ⟨by omega,by omega,_,rfl,?_,rfl⟩
 rw [show Int.tdiv (s:Int) ((c^k:Nat):Int)=((s/c^k:Nat):Int) from rfl]
 obtain ⟨q,hq⟩:∃q,s/c^k=q:=⟨_,rfl⟩
 rw [hq] at hd ⊢
 rw [zf (by omega) (by omega),←hq]
 rfl
theorem zqn {D:Dp} (ok:D.OK) {s p i:Nat} (hi:i<D.n):
  (D.stepR s p i:Int)=s+((D.so i:Int)-(dig D.c s (p%D.w):Nat))*((D.c^(p%D.w):Nat):Int)+((D.ea i:Int)-(s/D.c^D.w:Nat))*((D.c^D.w:Nat):Int):=by
 unfold Dp.stepR
 have h1:=ziU D.c (p%D.w) (D.so i) (s%D.top)
 rw [show D.top=D.c^D.w from rfl,vV (Nat.mod_lt _ ok.hw)] at h1
 have h2:=Nat.div_add_mod s (D.c^D.w)
 have h3:((D.c^D.w*(s/D.c^D.w):Nat):Int)+((s%D.c^D.w:Nat):Int)=s:=by exact_mod_cast h2
 rw [show D.top=D.c^D.w from rfl,Int.natCast_add,h1,Int.sub_mul ((D.ea i:Int))]
 rw [←Int.natCast_mul (D.ea i),←Int.natCast_mul (s/D.c^D.w),Nat.mul_comm (s/D.c^D.w)]
 omega
theorem zgJ {D:Dp} (ok:D.OK) {s p i:Nat} (hi:i<D.n) (ht:D.c^D.w≤46656): -46656≤((D.so i:Int)-(dig D.c s (p%D.w):Nat))*((D.c^(p%D.w):Nat):Int)∧((D.so i:Int)-(dig D.c s (p%D.w):Nat))*((D.c^(p%D.w):Nat):Int)≤46656:=by
 have h1:=ziU D.c (p%D.w) (D.so i) (s%D.top)
 rw [show D.top=D.c^D.w from rfl,vV (Nat.mod_lt _ ok.hw)] at h1
 have h2:=Dp.set_lt ok (p:=p) (r:=s) hi
 rw [show D.top=D.c^D.w from rfl] at h2
 have h3:=Nat.mod_lt s (Dp.top_pos ok)
 rw [show D.top=D.c^D.w from rfl] at h3
 obtain ⟨m,hm⟩:∃m,s%D.c^D.w=m:=⟨_,rfl⟩
 rw [hm] at h1 h2 h3
 omega
theorem zqh {D:Dp} (ok:D.OK) {s i:Nat} (hi:i<D.n) (hs:s≤46656) (hb:D.c^(D.w+1)≤46656): -46656≤((D.ea i:Int)-(s/D.c^D.w:Nat))*((D.c^D.w:Nat):Int)∧((D.ea i:Int)-(s/D.c^D.w:Nat))*((D.c^D.w:Nat):Int)≤46656:=by
 have h1:D.ea i*D.c^D.w≤D.c*D.c^D.w:=Nat.mul_le_mul_right _ (Nat.le_of_lt (ok.ea i hi))
 have e1:D.c*D.c^D.w=D.c^(D.w+1):=by rw [Nat.pow_succ,Nat.mul_comm]
 rw [e1] at h1
 have h2:=Nat.div_mul_le_self s (D.c^D.w)
 rw [Int.sub_mul,←Int.natCast_mul,←Int.natCast_mul]
 omega
section
variable {c:Int} {ts:List Tile} {plan borders:List (List Int)} {u q bq:Sl} {h:H}
theorem zhe (hs:setOK c ts) (hp:zJ c ts.length plan borders) (ru:Rd h u 4 (tcs ts)) (rq:RdSS h q plan) (rb:RdSS h bq borders) {y x i:Nat} (hy:y<plan.length) (hx:x<(rw_ plan 0).length) (hi:i<ts.length):
  callB SP zlP [.agg (SetC c u),.sl q,.sl bq,i64 y,i64 x,i64 i] h fun r h'=>r=bOK ts plan borders y x i∧Ext h h':=by
 obtain ⟨⟨⟨p1,p2⟩,p3⟩,p4,p5,p6⟩:=hp
 have hq:=rq.len
 have hxy:x<(rw_ plan y).length:=by rw [(p3 y hy).1];exact hx
 have hw:=(p3 0 (by omega)).2
 apply zxm
 unfold ZV WU
 refine zk fun h1 o1 x1 l1=>?_
 rw [zxl]
 unfold zjZ WT
 have rq1:=rq.ext x1
 have rb1:=rb.ext x1
 -- the end,once the plan is kept
 have H1:∀b:Bool,b=(decide (G plan y x≥0)&&G plan y x != (i:Int))→zfX SP (fun v h'=>∃r,v = .bool r∧r=bOK ts plan borders y x i∧Ext h h') q bq y x i ⟨some h.length,2,0⟩ b h1:=fun b hb=>by
  unfold zfX
  refine yy (fun qb=>?_) (fun qb=>?_)
  ·unfold WS
   rw [zxk]
   exact ⟨_,rfl,by unfold bOK;rw [←hb,qb];rfl,x1⟩
  unfold WR
  refine rq1.ixC (i:=0) (by omega) (by omega) fun p0 v0 hp0 rv0 lv0=>⟨v0,hp0,?_⟩
  refine zh (o1.ldS (i:=1) rfl rfl ?_)
  refine (ru.ext x1).ixT (by omega) (by omega) fun p3 po3 hp3=>⟨_,hp3,?_⟩
  refine zo fun h6 o6 x6 l6=>?_
  refine ⟨x6.rangeE hp3,((o1.ext x6).cellE rfl).trans (o1.cellE rfl).symm,x6.cellE hp0,?_⟩
  refine o6.stA fun h7 o7 b7 l7=>?_
  have x7:Ext h1 h7:=x6.but_ b7 (zi (Nat.le_refl _))
  rw [zxj]
  unfold zjY WQ
  have rb7:=rb1.ext x7
  replace lv0:v0.len=(rw_ plan 0).length:=lv0
  have hout:∀b:Bool,b=bOK ts plan borders y x i→∃r,AVal.bool b = .bool r∧r=bOK ts plan borders y x i∧Ext h h7:=fun b e=>⟨_,rfl,e,x1.trans x7⟩
  have hplan:(decide (G plan y x≥0)&&G plan y x != (i:Int))=false:=by rw [←hb,qb]
  -- a border is read
  have hbr:∀(k:Nat),k<4→∀K:Sl→Prop,(∀v,v.len=(rw_ borders k).length→(∀(j:Nat) (K':Int→Prop),j<(rw_ borders k).length→K' (G borders k j)→ixS v 1 j fun p=>Cl.ldI .i64 p h7 K')→K v)→ixS bq 1 (k:Int) fun p=>Cl.ldS p h7 K:=fun k hk K hK=>
   rb7.ldG (by omega) (by omega) fun v rv lv=>by
    rw [Int.toNat_natCast] at rv lv
    refine hK v lv fun j K' hj hK'=>?_
    refine rv.ldG (by omega) (by omega) ?_
    rw [Int.toNat_natCast];exact hK'
  have hsd:∀(k:Nat),k<4→∀K:Int→Prop,K (sd (tat ts i) k)→ixA ⟨some h1.length,4,0⟩ 4 1 (k:Int) fun p=>Cl.ldI .i64 p h7 K:=fun k hk K hK=>o7.sdI (by omega) (by omega) (by rw [Int.toNat_natCast];exact hK)
  have hlen:∀k,k<4→0<(rw_ borders k).length→(rw_ borders k).length=if k%2=1 then (rw_ plan 0).length else plan.length:=fun k hk h0=>by
   rcases (p6 k hk).1 with h | h
   ·omega
   ·exact h
  have l0:=hlen 0 (by omega)
  have l1':=hlen 1 (by omega)
  have l2:=hlen 2 (by omega)
  have l3:=hlen 3 (by omega)
  rw [if_neg (by omega)] at l0 l2
  rw [if_pos (by omega)] at l1' l3
  have brd_no:∀k j,(rw_ borders k).length=0→brd ts borders k j i=true:=fun k j h0=>by unfold brd;rw [h0];rfl
  have brd_yes:∀k j,0<(rw_ borders k).length→brd ts borders k j i=(G borders k j==sd (tat ts i) k):=fun k j h0=>by
   unfold brd
   rw [show ((rw_ borders k).length==0)=false by rw [beq_eq_false_iff_ne];omega];rfl
  -- the last two borders
  have H6:∀b,b=((x+1 != (rw_ plan 0).length||brd ts borders 2 y i)&&(y+1 != plan.length||brd ts borders 3 x i))→(!((x==0 && !brd ts borders 0 y i)||(y==0 && !brd ts borders 1 x i)))=true→(qz SP (fun v h'=>∃r,v = .bool r∧r=bOK ts plan borders y x i∧Ext h h')) .normal (yT b) h7:=fun b e e2=>by
   rw [zxg]
   exact hout b (by unfold bOK;rw [hplan,e2,←e];rfl)
  have H4:∀b,b=((x==0 && !brd ts borders 0 y i)||(y==0 && !brd ts borders 1 x i))→(qA SP (fun v h'=>∃r,v = .bool r∧r=bOK ts plan borders y x i∧Ext h h')) .normal (yF bq y x q.len v0.len ⟨some h1.length,4,0⟩ b) h7:=fun b e=>by
   rw [zxi]
   unfold zjX
   refine yy (fun q4=>?_) (fun q4=>?_)
   ·unfold WP
    rw [zxh]
    exact hout false (by unfold bOK;rw [hplan,←e,q4];rfl)
   have e2:(!((x==0 && !brd ts borders 0 y i)||(y==0 && !brd ts borders 1 x i)))=true:=by rw [←e,q4];rfl
   have S3:(x+1 != (rw_ plan 0).length||brd ts borders 2 y i)=true→bif (y:Int) != w64 ((q.len:Int)-1) then (qz SP (fun v h'=>∃r,v = .bool r∧r=bOK ts plan borders y x i∧Ext h h')) .normal (yT true) h7
     else ixS bq 1 3 fun p0=>Cl.ldS p0 h7 fun s1=>bif ((s1.len:Int)==0) then (qz SP (fun v h'=>∃r,v = .bool r∧r=bOK ts plan borders y x i∧Ext h h')) .normal (yT true) h7
     else ixS bq 1 3 fun p2=>Cl.ldS p2 h7 fun s3=>ixS s3 1 x fun p4=>Cl.ldI .i64 p4 h7 fun n5=>ixA ⟨some h1.length,4,0⟩ 4 1 3 fun p6=>Cl.ldI .i64 p6 h7 fun n7=>(qz SP (fun v h'=>∃r,v = .bool r∧r=bOK ts plan borders y x i∧Ext h h')) .normal (yT (n5==n7)) h7:=fun e3=>by
    rw [zf (by omega) (by omega)]
    refine zF (fun q1=>H6 _ (by rw [e3,show (y+1 != plan.length)=true by simp;omega];rfl) e2) (fun q1=>?_)
    have ey:(y+1 != plan.length)=false:=by simp;omega
    refine hbr 3 (by omega) _ fun v lv rv=>?_
    refine zp (fun q2=>H6 _ (by rw [e3,brd_no 3 x (by omega),Bool.or_true];rfl) e2) (fun q2=>?_)
    refine hbr 3 (by omega) _ fun v lv rv=>?_
    refine rv x _ (by omega) ?_
    refine hsd 3 (by omega) _ ?_
    exact H6 _ (by rw [e3,ey,brd_yes 3 x (by omega)];rfl) e2
   unfold WO
   rw [lv0,zf (n:=((rw_ plan 0).length:Int)-1) (by omega) (by omega)]
   refine zF (fun q1=>S3 (by rw [show (x+1 != (rw_ plan 0).length)=true by simp;omega];rfl)) (fun q1=>?_)
   have ex:(x+1 != (rw_ plan 0).length)=false:=by simp;omega
   refine hbr 2 (by omega) _ fun v lv rv=>?_
   refine zp (fun q2=>S3 (by rw [brd_no 2 y (by omega),Bool.or_true])) (fun q2=>?_)
   refine hbr 2 (by omega) _ fun v lv rv=>?_
   refine rv y _ (by omega) ?_
   refine hsd 2 (by omega) _ ?_
   refine yy (fun q3=>S3 (by rw [ex,brd_yes 2 y (by omega),q3];rfl)) (fun q3=>?_)
   exact H6 _ (by rw [ex,brd_yes 2 y (by omega),q3];rfl) e2
  -- the first two
  have N1:(x==0 && !brd ts borders 0 y i)=false→bif ((y:Int)==0) then ixS bq 1 1 fun p8=>Cl.ldS p8 h7 fun s9=>bif (decide ((s9.len:Int)>0)) then ixS bq 1 1 fun p10=>Cl.ldS p10 h7 fun s11=>ixS s11 1 x fun p12=>Cl.ldI .i64 p12 h7 fun n13=>ixA ⟨some h1.length,4,0⟩ 4 1 1 fun p14=>Cl.ldI .i64 p14 h7 fun n15=>(qA SP (fun v h'=>∃r,v = .bool r∧r=bOK ts plan borders y x i∧Ext h h')) .normal (yF bq y x q.len v0.len ⟨some h1.length,4,0⟩ (n13 != n15)) h7
    else (qA SP (fun v h'=>∃r,v = .bool r∧r=bOK ts plan borders y x i∧Ext h h')) .normal (yF bq y x q.len v0.len ⟨some h1.length,4,0⟩ false) h7
    else (qA SP (fun v h'=>∃r,v = .bool r∧r=bOK ts plan borders y x i∧Ext h h')) .normal (yF bq y x q.len v0.len ⟨some h1.length,4,0⟩ false) h7:=fun e=>by
   refine zp (fun q1=>?_) (fun q1=>H4 _ (by rw [e,show (y==0)=false by simp;omega];rfl))
   have ey:(y==0)=true:=by simp;omega
   refine hbr 1 (by omega) _ fun v lv rv=>?_
   refine zc (fun q2=>?_) (fun q2=>H4 _ (by rw [e,brd_no 1 x (by omega)];simp))
   refine hbr 1 (by omega) _ fun v lv rv=>?_
   refine rv x _ (by omega) ?_
   refine hsd 1 (by omega) _ ?_
   exact H4 _ (by rw [e,ey,brd_yes 1 x (by omega)];rfl)
  refine zp (fun q1=>?_) (fun q1=>N1 (by rw [show (x==0)=false by simp;omega];rfl))
  have ex:(x==0)=true:=by simp;omega
  refine hbr 0 (by omega) _ fun v lv rv=>?_
  refine zc (fun q2=>?_) (fun q2=>N1 (by rw [brd_no 0 y (by omega)];simp))
  refine hbr 0 (by omega) _ fun v lv rv=>?_
  refine rv y _ (by omega) ?_
  refine hsd 0 (by omega) _ ?_
  refine yy (fun q3=>?_) (fun q3=>?_)
  ·refine H4 _ ?_
   rw [ex,brd_yes 0 y (by omega)]
   have q3':(G borders 0 y==sd (tat ts i) 0)=false:=by
    cases e:(G borders 0 y==sd (tat ts i) 0)
    ·rfl
    ·unfold bne at q3;rw [e] at q3;cases q3
   rw [q3'];rfl
  ·refine N1 ?_
   rw [brd_yes 0 y (by omega)]
   have q3':(G borders 0 y==sd (tat ts i) 0)=true:=by
    cases e:(G borders 0 y==sd (tat ts i) 0)
    ·unfold bne at q3;rw [e] at q3;cases q3
    ·rfl
   rw [q3'];simp
 refine rq1.ldG (by omega) (by omega) fun v rv lv=>?_
 rw [Int.toNat_natCast] at rv lv
 refine rv.ldG (by omega) (by omega) ?_
 rw [Int.toNat_natCast,show (rw_ plan y).getD x 0=G plan y x from rfl]
 refine zc (fun qp=>?_) (fun qp=>?_)
 ·refine rq1.ldG (by omega) (by omega) fun v rv lv=>?_
  rw [Int.toNat_natCast] at rv lv
  refine rv.ldG (by omega) (by omega) ?_
  rw [Int.toNat_natCast,show (rw_ plan y).getD x 0=G plan y x from rfl,zig]
  exact H1 _ (by rw [decide_eq_true qp,Bool.true_and])
 ·rw [zig]
  exact H1 _ (by rw [decide_eq_false qp,Bool.false_and])
end
end Go.Proofs.YtlcgclmobfdbcaaGreat.Cl
set_option linter.unusedVariables false
set_option linter.unusedSimpArgs false
namespace Go.Proofs.YtlcgclmobfdbcaaGreat.Cl
open Go
theorem xD (a b:Nat):Int.tdiv (a:Int) (b:Int)=((a/b:Nat):Int):=rfl
theorem xO (a b:Nat):Int.tmod (a:Int) (b:Int)=((a%b:Nat):Int):=rfl
theorem zcj {n:Nat} (h:n≤1000000000000):w64 ((n:Nat):Int)=(n:Int):=zf (by omega) (by omega)
theorem ziu {a b m:Nat} (h:a≤m):a/b≤m:=Nat.le_trans (Nat.div_le_self _ _) h
theorem vt {a b:Nat} (h:a≤1000000000000):w64 ((a/b:Nat):Int)=((a/b:Nat):Int):=zcj (ziu h)
section
variable {c:Int} {ts:List Tile} {plan borders:List (List Int)} {u q bq:Sl}
theorem dims (hs:setOK c ts) (hp:zJ c ts.length plan borders):c.toNat≤6∧0<c.toNat∧(c.toNat:Int)=c∧0<(rw_ plan 0).length∧(rw_ plan 0).length≤5∧0<plan.length∧plan.length≤5∧plan.length*(rw_ plan 0).length≤25∧ts.length≤16:=by
 have hc:=hs.1
 have h1:=hp.1.1
 have hw:=(hp.1.2 0 (by omega)).2
 have:=Nat.mul_le_mul (show plan.length≤5 by omega) (show (rw_ plan 0).length≤5 by omega)
 exact ⟨by omega,by omega,by omega,by omega,by omega,by omega,by omega,this,hs.2.1⟩
theorem Yj {w H p:Nat} (hw:0<w) (hp:p<H*w):p/w<H∧p%w<w:=⟨by rw [Nat.div_lt_iff_lt_mul hw];exact hp,Nat.mod_lt _ hw⟩
theorem zqm {D:Dp} (ok:D.OK) {s p i:Nat} (hi:i<D.n) (hb:D.c^(D.w+1)≤46656) (hs:s<D.c^(D.w+1)):
  w64 (w64 ((s:Int)+w64 (w64 ((D.so i:Int)-(dig D.c s (p%D.w):Nat))*((D.c^(p%D.w):Nat):Int)))+w64 (w64 ((D.ea i:Int)-(s/D.c^D.w:Nat))*((D.c^D.w:Nat):Int)))=(D.stepR s p i:Int):=by
 have ht:D.c^D.w≤46656:=by
  rw [Nat.pow_succ] at hb
  have:=Nat.mul_le_mul_left (D.c^D.w) ok.hc
  omega
 have b1:=zgJ ok hi (s:=s) (p:=p) ht
 have b2:=zqh ok hi (s:=s) (by omega) hb
 have e:=zqn ok hi (s:=s) (p:=p)
 have h1:=ok.so i hi
 have h2:=ok.ea i hi
 have hc:D.c≤46656:=by
  have:=Nat.pow_le_pow_right ok.hc (show 1≤D.w+1 by omega)
  rw [Nat.pow_one] at this;omega
 have h3:=zHT ok.hc (v:=s) (k:=p%D.w)
 have h4:s/D.c^D.w≤46656:=ziu (by omega)
 obtain ⟨A,hA⟩:∃A,((D.so i:Int)-(dig D.c s (p%D.w):Nat))*((D.c^(p%D.w):Nat):Int)=A:=⟨_,rfl⟩
 obtain ⟨B,hB⟩:∃B,((D.ea i:Int)-(s/D.c^D.w:Nat))*((D.c^D.w:Nat):Int)=B:=⟨_,rfl⟩
 have e1:w64 ((D.so i:Int)-(dig D.c s (p%D.w):Nat))=(D.so i:Int)-(dig D.c s (p%D.w):Nat):=zf (by omega) (by omega)
 have e2:w64 ((D.ea i:Int)-(s/D.c^D.w:Nat))=(D.ea i:Int)-(s/D.c^D.w:Nat):=by
  obtain ⟨z,hz⟩:∃z,s/D.c^D.w=z:=⟨_,rfl⟩
  rw [hz] at h4 ⊢
  exact zf (by omega) (by omega)
 rw [e1,e2,hA,hB,zf (n:=A) (by omega) (by omega),zf (n:=B) (by omega) (by omega),zf (n:=(s:Int)+A) (by omega) (by omega),zf (by omega) (by omega),e,hA,hB]
theorem yO (hs:setOK c ts) {i:Nat} (hi:i<ts.length) {k:Nat} (hk:k<4):sd (tat ts i) k=((sd (tat ts i) k).toNat:Int):=by have:=ziS hs hi hk;omega
theorem zrd (hs:setOK c ts) (hp:zJ c ts.length plan borders) {h:H} (ru:Rd h u 4 (tcs ts)) {s p i:Nat} (hsl:s<(dpOf c ts plan borders).c^((dpOf c ts plan borders).w+1)) (hi:i<ts.length) (hpl:p≤1000):
  callI SP .i64 zrP [.agg (SetC c u),i64 (rw_ plan 0).length,i64 s,i64 p,i64 i] h fun n h'=>n=((dpOf c ts plan borders).stepR s p i:Int)∧Ext h h':=by
 obtain ⟨d1,d2,d3,d4,d5,d6,d7,d8,d9⟩:=dims hs hp
 have ok:=wF hs hp
 have hb:(dpOf c ts plan borders).c^((dpOf c ts plan borders).w+1)≤46656:=zV d1 (by show (rw_ plan 0).length+1≤6;omega)
 apply zys
 unfold Vt
 refine zk fun h1 o1 x1 l1=>?_
 refine zh (o1.ldI (i:=0) (m:=c) rfl rfl (zh (o1.ldS (i:=1) rfl rfl ?_)))
 refine (ru.ext x1).ixT (by omega) (by have:=ru.tlen;omega) fun p4 po4 hp4=>⟨_,hp4,?_⟩
 refine zo fun h7 o7 x7 l7=>?_
 refine ⟨x7.rangeE hp4,((o1.ext x7).cellE rfl).trans (o1.cellE rfl).symm,((o1.ext x7).cellE rfl).trans (o1.cellE rfl).symm,?_⟩
 refine o7.stA fun h8 o8 b8 l8=>?_
 have x8:Ext h1 h8:=x7.but_ b8 (zi (Nat.le_refl _))
 refine ⟨by omega,?_⟩
 have hm:=Nat.mod_lt p d4
 have hc0:0<c.toNat^(p%(rw_ plan 0).length):=Nat.pow_pos d2
 have hc1:0<c.toNat^(rw_ plan 0).length:=Nat.pow_pos d2
 rw [xO,←d3]
 refine (zcq d1 (by omega) _).to ?_
 rintro _ _ ⟨rfl,rfl⟩
 refine (zcq d1 (by omega) _).to ?_
 rintro _ _ ⟨rfl,rfl⟩
 refine o8.sdI (k:=3) (by omega) (by omega) ⟨by omega,by omega,?_⟩
 refine o8.sdI (k:=2) (by omega) (by omega) ⟨by omega,_,rfl,?_,x1.trans x8⟩
 have e3:=yO hs hi (k:=3) (by omega)
 have e2:=yO hs hi (k:=2) (by omega)
 show w64 (w64 ((s:Int)+w64 (w64 (sd (tat ts i) 3-Int.tmod (w64 (Int.tdiv (s:Int) ((c.toNat^(p%(rw_ plan 0).length):Nat):Int))) (c.toNat:Int))*((c.toNat^(p%(rw_ plan 0).length):Nat):Int)))+w64 (w64 (sd (tat ts i) 2-w64 (Int.tdiv (s:Int) ((c.toNat^(rw_ plan 0).length:Nat):Int)))*((c.toNat^(rw_ plan 0).length:Nat):Int)))=_
 rw [xD,xD,vt (by omega),vt (by omega),xO,e3,e2]
 exact zqm ok (D:=dpOf c ts plan borders) hi hb hsl
theorem zBB (hs:setOK c ts) (hp:zJ c ts.length plan borders) {h:H} (ru:Rd h u 4 (tcs ts)) (rq:RdSS h q plan) (rb:RdSS h bq borders) {s p i:Nat} (hsl:s<(dpOf c ts plan borders).c^((dpOf c ts plan borders).w+1)) (hi:i<ts.length) (hpl:p<plan.length*(rw_ plan 0).length):
  callB SP zrQ [.agg (SetC c u),.sl q,.sl bq,i64 s,i64 p,i64 i] h fun r h'=>r=(dpOf c ts plan borders).can s p i∧Ext h h':=by
 obtain ⟨d1,d2,d3,d4,d5,d6,d7,d8,d9⟩:=dims hs hp
 have ok:=wF hs hp
 have hb:(dpOf c ts plan borders).c^((dpOf c ts plan borders).w+1)≤46656:=zV d1 (by show (rw_ plan 0).length+1≤6;omega)
 obtain ⟨y1,x1'⟩:=Yj d4 hpl
 have hql:=rq.len
 apply zyt
 unfold Vu
 refine zk fun h1 o1 x1 l1=>?_
 refine (rq.ext x1).ixC (i:=0) (by omega) (by omega) fun p2 v0 hp2 rv0 lv0=>⟨v0,hp2,?_⟩
 replace lv0:v0.len=(rw_ plan 0).length:=lv0
 refine zh (o1.ldI (i:=0) (m:=c) rfl rfl (zh (o1.ldS (i:=1) rfl rfl ?_)))
 refine (ru.ext x1).ixT (by omega) (by have:=ru.tlen;omega) fun p6 po6 hp6=>⟨_,hp6,?_⟩
 refine zo fun h9 o9 x9 l9=>?_
 refine ⟨x9.rangeE hp6,((o1.ext x9).cellE rfl).trans (o1.cellE rfl).symm,((o1.ext x9).cellE rfl).trans (o1.cellE rfl).symm,x9.cellE hp2,?_⟩
 refine o9.stA fun h10 o10 b10 l10=>?_
 have x10:Ext h1 h10:=x9.but_ b10 (zi (Nat.le_refl _))
 rw [lv0]
 refine ⟨by omega,by omega,(o1.ext x10).ldA rfl ?_⟩
 have hpp:p≤1000:=by omega
 rw [xD,xO,vt (by omega)]
 have xx:=x1.trans x10
 refine (zhe hs hp (ru.ext xx) (rq.ext xx) (rb.ext xx) y1 x1' hi).to ?_
 rintro _ h12 ⟨rfl,x12⟩
 have o12:=o10.ext x12
 have xxx:=xx.trans x12
 have hcan:(dpOf c ts plan borders).can s p i=(bOK ts plan borders (p/(rw_ plan 0).length) (p%(rw_ plan 0).length) i&&(p/(rw_ plan 0).length==0||dig c.toNat s (p%(rw_ plan 0).length)==(sd (tat ts i) 1).toNat)&&(p%(rw_ plan 0).length==0||dig c.toNat s (rw_ plan 0).length==(sd (tat ts i) 0).toNat)):=rfl
 have e1:=yO hs hi (k:=1) (by omega)
 have e0:=yO hs hi (k:=0) (by omega)
 obtain ⟨y,hy⟩:∃y,p/(rw_ plan 0).length=y:=⟨_,rfl⟩
 obtain ⟨x,hx⟩:∃x,p%(rw_ plan 0).length=x:=⟨_,rfl⟩
 rw [hy,hx] at hcan
 rw [hy,hx]
 generalize (dpOf c ts plan borders).can s p i=cn at hcan ⊢
 rw [hx] at x1'
 refine yy (fun qb=>?_) (fun qb=>⟨_,rfl,by rw [hcan,qb];rfl,xxx⟩)
 rw [qb,Bool.true_and] at hcan
 have beqC:∀a b:Nat,((a:Int)==(b:Int))=(a==b):=fun a b=>by rw [Bool.eq_iff_iff];simp only [beq_iff_eq];omega
 have W:∀b:Bool,((y==0)||dig c.toNat s x==(sd (tat ts i) 1).toNat)=true→∀h',Ext h12 h'→Obj h' h1.length (tc (tat ts i))→
   bif ((x:Int)==0) then (fun (v:AVal) h'=>∃r,v = .bool r∧r=cn∧Ext h h') (AVal.bool true) h'
   else callI SP .i64 zbs [i64 s,i64 c,i64 (rw_ plan 0).length] h' fun n15 h14=>ixA ⟨some h1.length,4,0⟩ 4 1 0 fun p16=>Cl.ldI .i64 p16 h14 fun n17=>(cell h' p16=cell h14 p16)∧(fun (v:AVal) h'=>∃r,v = .bool r∧r=cn∧Ext h h') (AVal.bool (n15==n17)) h14:=fun _ hn h' x' oo=>by
  rw [hn,Bool.true_and] at hcan
  refine zp (fun q1=>⟨_,rfl,by rw [hcan,show (x==0)=true by rw [beq_iff_eq];omega];rfl,xxx.trans x'⟩) (fun q1=>?_)
  rw [←d3]
  refine (zAu d2 d1 (by omega) (by omega) _).to ?_
  rintro _ _ ⟨rfl,rfl⟩
  refine oo.sdI (k:=0) (by omega) (by omega) ⟨rfl,_,rfl,?_,xxx.trans x'⟩
  rw [hcan,show (x==0)=false by rw [beq_eq_false_iff_ne];omega,Bool.false_or,show sd (tat ts ((i:Nat):Int)) (Int.toNat 0)=((sd (tat ts i) 0).toNat:Int) from e0]
  exact beqC _ _
 refine zp (fun q1=>W true (by rw [show (y==0)=true by rw [beq_iff_eq];omega];rfl) _ (Ext.refl _) o12) (fun q1=>?_)
 rw [←d3]
 refine (zAu d2 d1 (by omega) (by omega) _).to ?_
 rintro _ _ ⟨rfl,rfl⟩
 refine o12.sdI (k:=1) (by omega) (by omega) ⟨rfl,?_⟩
 have ey:(y==0)=false:=by rw [beq_eq_false_iff_ne];omega
 rw [show sd (tat ts ((i:Nat):Int)) (Int.toNat 1)=((sd (tat ts i) 1).toNat:Int) from e1,beqC]
 refine yy (fun q2=>?_) (fun q2=>⟨_,rfl,by rw [hcan,ey,Bool.false_or,q2];rfl,xxx⟩)
 have:=W true (by rw [ey,q2];rfl) _ (Ext.refl _) o12
 rw [←d3] at this
 exact this
end
end Go.Proofs.YtlcgclmobfdbcaaGreat.Cl
set_option linter.unusedVariables false
set_option linter.unusedSimpArgs false
namespace Go.Proofs.YtlcgclmobfdbcaaGreat.Cl
open Go
theorem Xm {l:List Int} {i j:Nat} {v:Int} (h:i<l.length):(l.set i v).getD j 0=if i=j then v else l.getD j 0:=by
 rw [List.getD_eq_getElem?_getD,List.getD_eq_getElem?_getD,List.getElem?_set]
 by_cases e:i=j
 ·subst e;simp [h]
 ·rw [if_neg e,if_neg e]
def Dp.lim (D:Dp):Nat:=D.c^(D.w+1)
def sv (n:Nat):Int:=((min n 1000000000000001:Nat):Int)
theorem zgA (n:Nat):0≤sv n∧sv n≤1000000000000001:=by unfold sv;omega
theorem sv_pos {n:Nat}:0<sv n↔0<n:=by unfold sv;omega
theorem zLC (a b:Nat):mnI (w64 (sv a+sv b)) 1000000000000001=sv (a+b):=by
 have h1:=zgA a
 have h2:=zgA b
 rw [zf (by omega) (by omega)]
 unfold mnI sv at *
 split <;> omega
theorem zqk (a b:Nat):mnI 1000000000000001 (w64 (sv a+sv b))=sv (a+b):=by
 have h1:=zgA a
 have h2:=zgA b
 rw [zf (by omega) (by omega)]
 unfold mnI sv at *
 split <;> omega
theorem Dp.bk_pos {D:Dp} {m p r:Nat}:0<D.bk D.stepR m p r↔D.comp D.stepR m p r:=by
 rw [←Dp.fls_len,Dp.comp_run,List.length_pos_iff_exists_mem]
 exact ⟨fun ⟨L,h⟩=>⟨L,(Dp.mem_fls _ _ _ _).1 h⟩,fun ⟨L,h⟩=>⟨L,(Dp.mem_fls _ _ _ _).2 h⟩⟩
def lw (D:Dp) (p r:Nat):Nat:=D.bk D.stepR (D.size-p) p r
def LayRow (D:Dp) (p:Nat) (l:List Int):Prop:=l.length=D.lim∧∀r,r<D.lim→l.getD r 0=sv (lw D p r)
theorem LayRow.tri {D:Dp} {p:Nat} {l:List Int} (h:LayRow D p l) {r:Nat} (hr:r<D.lim):0≤l.getD r 0∧l.getD r 0≤1000000000000001∧(0<l.getD r 0↔D.left p r):=by
 rw [h.2 r hr]
 exact ⟨(zgA _).1,(zgA _).2,sv_pos.trans Dp.bk_pos⟩
def prt (D:Dp) (p i r:Nat):Nat:=((List.range i).map fun i'=>if D.can r p i'=true then lw D (p+1) (D.stepR r p i') else 0).sum
theorem zcp {D:Dp} {p i r:Nat}:prt D p (i+1) r=prt D p i r+if D.can r p i=true then lw D (p+1) (D.stepR r p i) else 0:=by
 unfold prt
 rw [List.range_succ,List.map_append,List.sum_append];simp
def LayI (D:Dp) (p i st:Nat) (l:List Int):Prop:=l.length=D.lim∧∀r,r<D.lim→l.getD r 0=sv (prt D p (if r<st then i+1 else i) r)
theorem LayI.start {D:Dp} {p:Nat}:LayI D p 0 0 (List.replicate D.lim 0):=⟨by simp,fun r hr=>by
 have:(List.replicate D.lim (0:Int)).getD r 0=0:=by rw [List.getD_eq_getElem?_getD,List.getElem?_replicate,if_pos hr];rfl
 rw [this,if_neg (by omega)];rfl⟩
theorem LayI.skip {D:Dp} {p i r:Nat} {l:List Int} (h:LayI D p i r l) (hn:D.can r p i=false):LayI D p i (r+1) l:=by
 refine ⟨h.1,fun r' hr=>?_⟩
 have c:=h.2 r' hr
 by_cases e:r'=r
 ·subst e
  rw [if_pos (by omega),zcp,if_neg (by rw [hn];simp),Nat.add_zero]
  rw [if_neg (by omega)] at c;exact c
 ·have:(if r'<r+1 then i+1 else i)=if r'<r then i+1 else i:=by split <;> split <;> omega
  rw [this];exact c
theorem LayI.upd {D:Dp} {p i r:Nat} {l:List Int} (h:LayI D p i r l) (hr:r<D.lim) (hc:D.can r p i=true) {n:Int} (hn:n=sv (lw D (p+1) (D.stepR r p i))):LayI D p i (r+1) (l.set r (mnI (w64 (l.getD r 0+n)) 1000000000000001)):=by
 refine ⟨by rw [List.length_set];exact h.1,fun r' hr'=>?_⟩
 rw [Xm (by rw [h.1];exact hr)]
 by_cases e:r=r'
 ·subst e
  have c:=h.2 r hr
  rw [if_neg (by omega)] at c
  rw [if_pos rfl,if_pos (by omega),zcp,if_pos hc,c,hn,zLC]
 ·have c:=h.2 r' hr'
  rw [if_neg e]
  have:(if r'<r+1 then i+1 else i)=if r'<r then i+1 else i:=by split <;> split <;> omega
  rw [this];exact c
theorem LayI.all {D:Dp} {p i:Nat} {l:List Int} (h:LayI D p i D.lim l):LayI D p (i+1) 0 l:=by
 refine ⟨h.1,fun r hr=>?_⟩
 have c:=h.2 r hr
 rw [if_pos hr] at c
 rw [if_neg (by omega)];exact c
theorem LayI.none {D:Dp} {p i:Nat} {l:List Int} (h:LayI D p i 0 l) (hn:∀r,D.can r p i=false):LayI D p (i+1) 0 l:=by
 refine ⟨h.1,fun r hr=>?_⟩
 have c:=h.2 r hr
 rw [if_neg (by omega)] at c
 rw [if_neg (by omega),zcp,if_neg (by rw [hn r];simp),Nat.add_zero];exact c
theorem LayI.end {D:Dp} {p:Nat} {l:List Int} (h:LayI D p D.n 0 l) (hp:p<D.size):LayRow D p l:=by
 refine ⟨h.1,fun r hr=>?_⟩
 have c:=h.2 r hr
 rw [if_neg (by omega)] at c
 rw [c]
 congr 1
 unfold prt lw
 rw [show D.size-p=(D.size-(p+1))+1 by omega]
 rfl
theorem zjb {c k:Nat} (hc:c≤6) (hk:k≤6) {h:H} {K:Int→H→Prop} (x:K ((c^k:Nat):Int) h):callI SP .i64 zcx [i64 c,i64 k] h K:=
 (zcq hc hk h).to (by rintro _ _ ⟨rfl,rfl⟩;exact x)
def LayT (D:Dp) (h:H) (v:Sl):Prop:=∃vs:List Sl,vs.length=D.size+1∧Rd h v 1 (vs.map .sl)∧∀(j:Nat) w,vs[j]? = some w→∃l,Rd h w 1 (ic l)∧LayRow D j l
theorem LayT.ext {D:Dp} {h h':H} {v:Sl} (t:LayT D h v) (x:Ext h h'):LayT D h' v:=by
 obtain ⟨vs,a,b,c⟩:=t
 exact ⟨vs,a,b.ext x,fun j w e=>by obtain ⟨l,r,y⟩:=c j w e;exact ⟨l,r.ext x,y⟩⟩
section
variable {c:Int} {ts:List Tile} {plan borders:List (List Int)} {u q bq:Sl}
set_option maxHeartbeats 1000000 in
theorem XW (hs:setOK c ts) (hp:zJ c ts.length plan borders) {h:H} (ru:Rd h u 4 (tcs ts)) (rq:RdSS h q plan) (rb:RdSS h bq borders):
  callS SP zlS [.agg (SetC c u),.sl q,.sl bq] h fun v h'=>LayT (dpOf c ts plan borders) h' v∧Ext h h':=by
 obtain ⟨d1,d2,d3,d4,d5,d6,d7,d8,d9⟩:=dims hs hp
 have ok:=wF hs hp
 generalize hD:dpOf c ts plan borders=D at ok
 have Dc:D.c=c.toNat:=by rw [←hD];rfl
 have Dw:D.w=(rw_ plan 0).length:=by rw [←hD];rfl
 have Dn:D.n=ts.length:=by rw [←hD];rfl
 have Ds:D.size=plan.length*(rw_ plan 0).length:=by rw [←hD];rfl
 have hb:D.c^(D.w+1)≤46656:=zV (by omega) (by omega)
 have hlim:D.lim≤46656:=hb
 have hlim0:0<D.lim:=Nat.pow_pos ok.hc
 have hql:=rq.len
 have hul:=ru.tlen
 apply zyz
 unfold Vv
 refine zk fun h1 o1 x1 l1=>?_
 refine (rq.ext x1).ldG (i:=0) (by omega) (by omega) fun v0 rv0 lv0=>?_
 replace lv0:v0.len=(rw_ plan 0).length:=lv0
 clear rv0
 refine zh (o1.ldI (i:=0) (m:=c) rfl rfl ?_)
 rw [lv0,zf (by omega) (by omega),show ((rw_ plan 0).length:Int)+1=(((rw_ plan 0).length+1:Nat):Int) by push_cast;rfl]
 rw [←d3]
 refine zjb d1 (by omega) ?_
 rw [show c.toNat^((rw_ plan 0).length+1)=D.lim by unfold Dp.lim;rw [Dc,Dw]]
 refine qQ (by omega) (by unfold lim;omega) fun s7 h8 os7 ls7 so7 e8=>?_
 have x8:Ext h1 h8:=by rw [e8];exact Ext.app _ _
 have hz:(List.replicate (D.lim:Int).toNat [AVal.int .i64 0]).flatten=ic (List.replicate D.lim 0):=by
  unfold ic
  rw [List.map_replicate,Int.toNat_natCast];simp
 rw [hz] at os7
 rw [ls7,Int.toNat_natCast]
 refine zoI _ _ _ _ _ _ _ _ _ _ _ (fun i g=>∃(k:Nat) (l:List Int),i=k∧k≤D.lim∧Ow g s7 1 (ic l)∧l.length=D.lim∧(∀r,r<k→l.getD r 0=1)∧Ext h1 g) (fun i _=>(D.lim-i).toNat) ?_ _
  ⟨0,_,rfl,by omega,os7,by simp,fun r hr=>by omega,x8⟩
 rintro X _ g ⟨k,l,rfl,hk,os,ll,hl,xg⟩ hX
 unfold zks zyI
 refine zc (fun hi=>?_) (fun hi=>?_)
 ·refine os.stI (by omega) (by rw [ls7];omega) _ fun g2 o2 b2 n2=>?_
  rw [zf (n:=(k:Int)+1) (by omega) (by omega)]
  rw [Int.toNat_natCast] at o2
  refine hX _ _ ⟨k+1,_,by push_cast;rfl,by omega,o2,by simp [ll],fun r hr=>?_,xg.but_ b2 (by rw [so7];exact zi (Nat.le_refl _))⟩ (by omega)
  rw [Xm (by omega)]
  split
  ·rfl
  ·exact hl r (by omega)
 have hkl:k=D.lim:=by omega
 subst hkl
 have lxg:=xg.len
 have hs7l:=os.lt so7
 -- the last layer
 have row7:LayRow D D.size l:=⟨ll,fun r hr=>by
  rw [hl r hr]
  unfold lw
  rw [Nat.sub_self];rfl⟩
 rw [hql,show (plan.length:Int)*((rw_ plan 0).length:Int)=((D.size:Nat):Int) by rw [Ds];push_cast;rfl]
 have hsz:D.size≤25:=by omega
 have hw1:w64 (D.size:Int)=(D.size:Int):=zf (by omega) (by omega)
 rw [hw1,zf (n:=(D.size:Int)+1) (by omega) (by omega),zf (n:=(D.size:Int)-1) (by omega) (by omega)]
 refine qQ (by omega) (by unfold lim;omega) fun s13 g1 os13 ls13 so13 eg1=>?_
 have xg1:Ext g g1:=by rw [eg1];exact Ext.app _ _
 have hz2:(List.replicate ((D.size:Int)+1).toNat [AVal.sl Sl.nil]).flatten=(List.replicate (D.size+1) Sl.nil).map .sl:=by
  rw [List.map_replicate,show ((D.size:Int)+1).toNat=D.size+1 by omega];simp
 rw [hz2] at os13
 have ls13':s13.len=D.size+1:=by rw [ls13];omega
 refine os13.stC (by omega) (by omega) _ fun g2 os13' b2 n2=>?_
 rw [so13] at b2
 rw [Int.toNat_natCast,←List.map_set] at os13'
 have xg2:Ext g g2:=xg1.but_ b2 (zi (Nat.le_refl _))
 have lg1:g1.length=g.length+1:=by rw [eg1];simp
 refine zjb d1 (by omega) ?_
 have top:c.toNat^(rw_ plan 0).length=D.c^D.w:=by rw [Dc,Dw]
 rw [top]
 refine zoH _ _ _ _ _ _ _ _ _ _ (fun i g'=>∃(p:Nat) (vs:List Sl),i=(p:Int)-1∧p≤D.size∧vs.length=D.size+1∧Ow g' s13 1 (vs.map .sl)∧(∀(j:Nat) w,p≤j→vs[j]? = some w→∃l,Rd g' w 1 (ic l)∧LayRow D j l∧w.o≠some g.length)∧Ext g g') (fun i _=>(i+1).toNat) ?_ _
  ⟨D.size,_,rfl,Nat.le_refl _,by simp,os13',fun j w hj hw=>by
   have hj2:=(List.getElem?_eq_some_iff.1 hw).1
   simp at hj2
   have:j=D.size:=by omega
   subst this
   rw [List.getElem?_set_self (by simp)] at hw
   cases hw
   exact ⟨l,os.rd.ext xg2,row7,by rw [so7];exact fun e=>by have:=Option.some.inj e;omega⟩,xg2⟩
 rintro X _ g0 ⟨p1,vs,rfl,hp1,hvl,ost,hrows,xg0⟩ hX
 unfold zkr zyH
 have lxg0:=xg0.len
 have hot:=ost.lt so13
 refine zc (fun hi=>?_) (fun hi=>?_)
 ·obtain ⟨p,rfl⟩:∃p,p1=p+1:=⟨p1-1,by omega⟩
  rw [show ((p+1:Nat):Int)-1=(p:Int) by omega] at hX ⊢
  have hpl:p<D.size:=by omega
  refine ⟨by omega,by omega,?_⟩
  refine qQ (by omega) (by unfold lim;omega) fun s18 g1' os18 ls18 so18 eg1'=>?_
  have xa:Ext g0 g1':=by rw [eg1'];exact Ext.app _ _
  have hz':(List.replicate (D.lim:Int).toNat [AVal.int .i64 0]).flatten=ic (List.replicate D.lim 0):=hz
  rw [hz'] at os18
  have ls18':s18.len=D.lim:=by rw [ls18];omega
  rw [xO,xD,vt (by omega)]
  have hm:=Nat.mod_lt p d4
  refine zjb d1 (by omega) ?_
  have below:c.toNat^(p%(rw_ plan 0).length)=D.c^(p%D.w):=by rw [Dc,Dw]
  rw [below]
  have tab:∀{g':H},Ext g0 g'→∃w l,Rd g' w 1 (ic l)∧LayRow D (p+1) l∧vs[p+1]? = some w:=fun {g'} x=>by
   have hv:=List.getElem?_eq_getElem (l:=vs) (i:=p+1) (by omega)
   obtain ⟨l,r,y,_⟩:=hrows (p+1) _ (by omega) hv
   exact ⟨_,l,r.ext x,y,hv⟩
  have i0:LayI D p 0 0 (List.replicate D.lim 0):=LayI.start
  refine zoG _ _ X _ _ _ _ _ _ _ _ _ _ _ _ _ (fun i g'=>∃(k:Nat) (l:List Int),i=k∧k≤D.n∧Ow g' s18 1 (ic l)∧LayI D p k 0 l∧Ext g0 g') (fun i _=>(D.n-i).toNat) ?_ _
   ⟨0,_,rfl,by omega,os18,i0,xa⟩
  rintro Y _ g3 ⟨i,l,rfl,hi',os18,lay,x03⟩ hY
  unfold zkq zyF zyG zfZ
  have x3:Ext h1 g3:=(xg.trans xg0).trans x03
  have o3:=o1.ext x3
  refine zh (o3.ldS (i:=1) rfl rfl ?_)
  refine zc (fun hi2=>?_) (fun hi2=>?_)
  ·have hin:i<ts.length:=by omega
   refine o3.ldA rfl ?_
   have hpw:=Yj d4 (show p<plan.length*(rw_ plan 0).length by omega)
   have xh3:=x1.trans x3
   refine (zhe hs hp (ru.ext xh3) (rq.ext xh3) (rb.ext xh3) hpw.1 hpw.2 hin).to ?_
   rintro _ g4 ⟨rfl,x4⟩
   have os4:=os18.ext x4
   have hB:D.B p i=bOK ts plan borders (p/(rw_ plan 0).length) (p%(rw_ plan 0).length) i:=by rw [←hD];rfl
   rw [←hB]
   refine zr (fun qb=>?_) (fun qb=>?_)
   ·rw [zf (n:=(i:Int)+1) (by omega) (by omega)]
    exact hY _ _ ⟨i+1,l,by push_cast;rfl,by omega,os4,lay.none (fun r=>by unfold Dp.can;rw [qb];rfl),x03.trans x4⟩ (by omega)
   have o4:=o3.ext x4
   refine zh (o4.ldS (i:=1) rfl rfl ?_)
   have xh4:=xh3.trans x4
   refine (ru.ext xh4).tileG (by omega) (by omega) ?_
   refine zo fun g5 o5 x5 _=>?_
   refine o5.stA fun g6 o6 b6 _=>?_
   have x6:Ext g4 g6:=x5.but_ b6 (zi (Nat.le_refl _))
   have x06:=(x03.trans x4).trans x6
   refine zoF _ _ X Y _ _ _ _ _ _ _ _ _ _ _ _ _ _ _ (fun r g'=>∃(k:Nat) (l:List Int),r=k∧k≤D.lim∧Ow g' s18 1 (ic l)∧LayI D p i k l∧Ext g0 g'∧Obj g' g4.length (tc (tat ts i))) (fun r _=>(D.lim-r).toNat) ?_ _
    ⟨0,l,rfl,by omega,os4.ext x6,lay,x06,o6⟩
   rintro Z _ g7 ⟨r,l7,rfl,hr,os7',lay7,x07,o7⟩ hZ
   unfold zkp zyE zfZ
   refine zc (fun hr2=>?_) (fun hr2=>?_)
   ·have hrl:r<D.lim:=by omega
    have hpx:0<D.c^(p%D.w):=Nat.pow_pos ok.hc
    have hpt:0<D.c^D.w:=Nat.pow_pos ok.hc
    refine ⟨by omega,by omega,by omega,?_⟩
    rw [xD,xD,vt (by omega),vt (by omega),xO]
    have skip:D.can r p i=false→Z (xt q bq ⟨some h.length,2,0⟩ (rw_ plan 0).length c.toNat D.lim s13 ((D.c^D.w:Nat):Int) p ((p/(rw_ plan 0).length:Nat):Int) ((p%(rw_ plan 0).length:Nat):Int) s18 ((D.c^(p%D.w):Nat):Int) i ⟨some g4.length,4,0⟩ (w64 (r+1))) g7:=fun hn=>by
     rw [zf (n:=(r:Int)+1) (by omega) (by omega)]
     exact hZ _ _ ⟨r+1,l7,by push_cast;rfl,by omega,os7',lay7.skip hn,x07,o7⟩ (by omega)
    have e1:=yO hs hin (k:=1) (by omega)
    have e0:=yO hs hin (k:=0) (by omega)
    have e3:=yO hs hin (k:=3) (by omega)
    have e2:=yO hs hin (k:=2) (by omega)
    have Dno:D.no i=(sd (tat ts i) 1).toNat:=by rw [←hD];rfl
    have Dwe:D.we i=(sd (tat ts i) 0).toNat:=by rw [←hD];rfl
    have Dso:D.so i=(sd (tat ts i) 3).toNat:=by rw [←hD];rfl
    have Dea:D.ea i=(sd (tat ts i) 2).toNat:=by rw [←hD];rfl
    have hcan:D.can r p i=((p/(rw_ plan 0).length==0||dig D.c r (p%D.w)==D.no i)&&(p%(rw_ plan 0).length==0||r/D.c^D.w==D.we i)):=by
     unfold Dp.can
     rw [qb,Bool.true_and,zla (v:=r) hrl,Dw]
    have hdig:((r/D.c^(p%D.w)%c.toNat:Nat):Int)=((dig D.c r (p%D.w):Nat):Int):=by unfold dig;rw [Dc]
    rw [hdig]
    have U:D.can r p i=true→ixA ⟨some g4.length,4,0⟩ 4 1 3 fun p4=>Cl.ldI .i64 p4 g7 fun n5=>ixA ⟨some g4.length,4,0⟩ 4 1 2 fun p6=>Cl.ldI .i64 p6 g7 fun n7=>ixS s18 1 r fun p8=>Cl.ldI .i64 p8 g7 fun n9=>ixS s13 1 (w64 ((p:Int)+1)) fun p10=>Cl.ldS p10 g7 fun s11=>
      ixS s11 1 (w64 ((w64 ((r:Int)+(w64 ((w64 (n5-((dig D.c r (p%D.w):Nat):Int)))*((D.c^(p%D.w):Nat):Int)))))+(w64 ((w64 (n7-((r/D.c^D.w:Nat):Int)))*((D.c^D.w:Nat):Int))))) fun p12=>Cl.ldI .i64 p12 g7 fun n13=>ixS s18 1 r fun p14=>Cl.st1 p14 (.int .i64 (mnI (w64 (n9+n13)) 1000000000000001)) g7 fun h15=>
      Z (xt q bq ⟨some h.length,2,0⟩ (rw_ plan 0).length c.toNat D.lim s13 ((D.c^D.w:Nat):Int) p ((p/(rw_ plan 0).length:Nat):Int) ((p%(rw_ plan 0).length:Nat):Int) s18 ((D.c^(p%D.w):Nat):Int) i ⟨some g4.length,4,0⟩ (w64 (r+1))) h15:=fun hc=>by
     refine o7.sdI (k:=3) (by omega) (by omega) ?_
     refine o7.sdI (k:=2) (by omega) (by omega) ?_
     refine os7'.rd.ldG (by omega) (by rw [lay7.1];omega) ?_
     rw [Int.toNat_natCast,zf (n:=(p:Int)+1) (by omega) (by omega)]
     obtain ⟨w,ln,rn,yn,hw⟩:=tab x07
     refine (ost.ext x07).rd.ldS (by omega) (by omega) fun w' hw'=>?_
     rw [show ((p:Int)+1).toNat=p+1 by omega,hw] at hw'
     cases hw'
     rw [show sd (tat ts ((i:Nat):Int)) (Int.toNat 3)=(D.so i:Int) by rw [Dso];exact e3,show sd (tat ts ((i:Nat):Int)) (Int.toNat 2)=(D.ea i:Int) by rw [Dea];exact e2]
     rw [zqm ok (by omega) hb hrl]
     have hst:=Dp.stepR_lt ok (p:=p) (r:=r) (show i<D.n by omega)
     refine rn.ldG (by omega) (by rw [yn.1];unfold Dp.lim;omega) ?_
     rw [Int.toNat_natCast]
     have y1:=yn.2 (D.stepR r p i) hst
     refine os7'.stI (by omega) (by rw [ls18'];omega) _ fun g8 o8 b8 n8=>?_
     rw [Int.toNat_natCast] at o8
     rw [zf (n:=(r:Int)+1) (by omega) (by omega)]
     have hlg0:=xa.len
     refine hZ _ _ ⟨r+1,_,by push_cast;rfl,by omega,o8,lay7.upd hrl hc y1,x07.but_ b8 (by rw [so18];exact zi (Nat.le_refl _)),o7.but b8 (by rw [so18];intro e;have:=Option.some.inj e;have h8:=x03.len;have h9:=x4.len;have h10:=os18.lt so18;omega)⟩ (by omega)
    have beqC:∀a b:Nat,((a:Int) != (b:Int)) = !(a==b):=fun a b=>by
     rw [Bool.eq_iff_iff]
     simp only [bne_iff_ne,ne_eq,Bool.not_eq_true',beq_eq_false_iff_ne]
     omega
    have e1':sd (tat ts ((i:Nat):Int)) (Int.toNat 1)=(D.no i:Int):=by rw [Dno];exact e1
    have e0':sd (tat ts ((i:Nat):Int)) (Int.toNat 0)=(D.we i:Int):=by rw [Dwe];exact e0
    obtain ⟨y,hyd⟩:∃y,p/(rw_ plan 0).length=y:=⟨_,rfl⟩
    obtain ⟨x,hxd⟩:∃x,p%(rw_ plan 0).length=x:=⟨_,rfl⟩
    rw [hyd,hxd] at hcan skip U hZ
    rw [hyd,hxd]
    obtain ⟨nb,hnb⟩:∃b,(dig D.c r (p%D.w)==D.no i)=b:=⟨_,rfl⟩
    obtain ⟨wb,hwb⟩:∃b,(r/D.c^D.w==D.we i)=b:=⟨_,rfl⟩
    rw [hnb,hwb] at hcan
    refine zc (fun qy=>?_) (fun qy=>?_)
    ·have ey:(y==0)=false:=by rw [beq_eq_false_iff_ne];omega
     rw [ey,Bool.false_or] at hcan
     refine o7.sdI (k:=1) (by omega) (by omega) ?_
     rw [e1',beqC,hnb]
     refine zr (fun q1=>skip (by rw [hcan,q1];rfl)) (fun q1=>?_)
     rw [q1,Bool.true_and] at hcan
     refine zc (fun qx=>?_) (fun qx=>?_)
     ·have ex:(x==0)=false:=by rw [beq_eq_false_iff_ne];omega
      rw [ex,Bool.false_or] at hcan
      refine o7.sdI (k:=0) (by omega) (by omega) ?_
      rw [e0',beqC,hwb]
      exact zr (fun q2=>skip (by rw [hcan,q2])) (fun q2=>U (by rw [hcan,q2]))
     ·exact U (by rw [hcan,show (x==0)=true by rw [beq_iff_eq];omega];rfl)
    ·have ey:(y==0)=true:=by rw [beq_iff_eq];omega
     rw [ey,Bool.true_or,Bool.true_and] at hcan
     refine zc (fun qx=>?_) (fun qx=>?_)
     ·have ex:(x==0)=false:=by rw [beq_eq_false_iff_ne];omega
      rw [ex,Bool.false_or] at hcan
      refine o7.sdI (k:=0) (by omega) (by omega) ?_
      rw [e0',beqC,hwb]
      exact zr (fun q2=>skip (by rw [hcan,q2])) (fun q2=>U (by rw [hcan,q2]))
     ·exact U (by rw [hcan,show (x==0)=true by rw [beq_iff_eq];omega];rfl)
   ·have hrl:r=D.lim:=by omega
    subst hrl
    rw [zf (n:=(i:Int)+1) (by omega) (by omega)]
    exact hY _ _ ⟨i+1,l7,by push_cast;rfl,by omega,os7',lay7.all,x07⟩ (by omega)
  ·have hin:i=D.n:=by omega
   subst hin
   have ost3:=ost.ext x03
   refine ost3.stC (by omega) (by omega) _ fun g5 ost5 b5 n5=>?_
   rw [so13] at b5
   rw [Int.toNat_natCast,←List.map_set] at ost5
   rw [zf (n:=(p:Int)-1) (by omega) (by omega)]
   have lx03:=x03.len
   refine hX _ _ ⟨p,_,rfl,by omega,by simp [hvl],ost5,fun j w hj hw=>?_,(xg0.trans x03).but_ b5 (zi (Nat.le_refl _))⟩ (by omega)
   rcases Nat.lt_or_ge p j with hlt | hge
   ·rw [List.getElem?_set_ne (by omega)] at hw
    obtain ⟨l',r',y',z'⟩:=hrows j w (by omega) hw
    exact ⟨l',(r'.ext x03).but b5 (.inl (Ne.symm z')),y',z'⟩
   ·have hjp:j=p:=by omega
    subst hjp
    rw [List.getElem?_set_self (by omega)] at hw
    cases hw
    have hne:some g.length≠s18.o:=by rw [so18];intro e;have:=Option.some.inj e;omega
    exact ⟨l,(os18.but b5 (.inl hne)).rd,lay.end hpl,Ne.symm hne⟩
 ·have hp0:p1=0:=by omega
  subst hp0
  refine ⟨_,rfl,⟨vs,hvl,ost.rd,fun j w hw=>?_⟩,x1.trans (xg.trans xg0)⟩
  obtain ⟨l',r',y',_⟩:=hrows j w (by omega) hw
  exact ⟨l',r',y'⟩
end
end Go.Proofs.YtlcgclmobfdbcaaGreat.Cl
set_option linter.unusedVariables false
set_option linter.unusedSimpArgs false
namespace Go.Proofs.YtlcgclmobfdbcaaGreat.Cl
open Go
theorem zqM {h:H} {s:Sl} {l:List Int} {x:Int} (r:Ow h s 1 (ic l)) (hl:(l.length:Int)+1≤lim) {K:Sl→H→Prop}
  (hk:∀s' h',Ow h' s' 1 (ic (l++[x]))→But s.o h h'→(∀o,s.o=some o→s'.o=some o)→K s' h'):newS 1 1 [.int .i64 x] h fun t h1=>app s t 1 h1 K:=by
 refine zj (by rfl) fun t h1 ot tl to e1=>?_
 have e1':Ext h h1:=by rw [e1];exact Ext.app _ _
 have hsl:=r.rd.ilen
 exact yk (by omega) (r.ext e1') ot.rd (by rw [tl,hsl];exact_mod_cast hl) fun s' h' o' ln b k1 k2=>hk s' h' (by rw [qS];exact o') ((e1'.but _).trans b) k1
theorem zgv:∀i,i<16→IntKind.wrap .u64 ((i:Nat):Int)=(i:Int):=by decide +kernel
theorem zLG:∀i,i<16→shlI .i64 1 ((i:Nat):Int)=((2^i:Nat):Int):=by decide +kernel
theorem zLN {i:Nat} (hi:i<16):2^i<65536:=by
 have:=Nat.pow_le_pow_right (show 0<2 by omega) (show i≤15 by omega)
 omega
theorem ZJ (n:Nat):BitVec.ofInt 64 (n:Int)=BitVec.ofNat 64 n:=by simp
theorem or16 {u i:Nat} (hu:u<65536) (hi:i<16):yj .or .i64 (u:Int) (shlI .i64 1 (IntKind.wrap .u64 (i:Int)))=((u ||| 2^i:Nat):Int):=by
 rw [zgv i hi,zLG i hi]
 have hp:=zLN hi
 have hor:u ||| 2^i<2^16:=Nat.or_lt_two_pow hu hp
 show w64 (((BitVec.ofInt 64 (u:Int)) ||| (BitVec.ofInt 64 ((2^i:Nat):Int))).toNat:Int)=_
 rw [ZJ,ZJ,BitVec.toNat_or,BitVec.toNat_ofNat,BitVec.toNat_ofNat,Nat.mod_eq_of_lt (by omega),Nat.mod_eq_of_lt (by omega)]
 exact zf (by omega) (by omega)
theorem zIr {u i:Nat} (hu:u<65536) (hi:i<16):u ||| 2^i<65536:=Nat.or_lt_two_pow (n:=16) hu (zLN hi)
theorem zIs (u i j:Nat):(u ||| 2^i).testBit j=(u.testBit j||decide (i=j)):=by rw [Nat.testBit_or,Nat.testBit_two_pow]
section
variable (D:Dp) (p:Nat)
def NXo (s i:Nat):Prop:=D.now p s∧i<D.n∧D.can s p i=true∧D.left (p+1) (D.stepR s p i)
def Acc (st i:Nat) (nl:List Bool) (own:Nat):Prop:=nl.length=D.lim∧own<65536∧
 (∀r,r<D.lim→(nl.getD r false=true↔∃s' i',(s'<st∨s'=st∧i'<i)∧NXo D p s' i'∧r=D.stepR s' p i'))∧
 ∀j,own.testBit j=true↔∃s',(s'<st∨s'=st∧j<i)∧NXo D p s' j
def zcf (m:Nat):Prop:=m<65536∧∀j,m.testBit j=true↔(j<D.n∧D.stand p j)
end
section
variable {D:Dp} {p:Nat}
theorem wK {l:List Bool} {i j:Nat} {v:Bool} (h:i<l.length):(l.set i v).getD j false=if i=j then v else l.getD j false:=by
 rw [List.getD_eq_getElem?_getD,List.getD_eq_getElem?_getD,List.getElem?_set]
 by_cases e:i=j
 ·subst e;simp [h]
 ·rw [if_neg e,if_neg e]
theorem Acc.start {l:List Bool} (hl:l.length=D.lim) (h0:∀r,r<D.lim→l.getD r false=false):Acc D p 0 0 l 0:=by
 refine ⟨hl,by omega,fun r hr=>?_,fun j=>?_⟩
 ·rw [h0 r hr]
  exact ⟨fun e=>by simp at e,fun ⟨s,i,h,_⟩=>by omega⟩
 ·rw [Nat.zero_testBit]
  exact ⟨fun e=>by simp at e,fun ⟨s,h,_⟩=>by omega⟩
theorem Acc.skip {st i own:Nat} {l:List Bool} (a:Acc D p st i l own) (hn:¬NXo D p st i):Acc D p st (i+1) l own:=by
 obtain ⟨a1,a2,a3,a4⟩:=a
 refine ⟨a1,a2,fun r hr=>(a3 r hr).trans ⟨fun ⟨s,j,h1,h2,h3⟩=>⟨s,j,by omega,h2,h3⟩,fun ⟨s,j,h1,h2,h3⟩=>?_⟩,fun j=>(a4 j).trans ⟨fun ⟨s,h1,h2⟩=>⟨s,by omega,h2⟩,fun ⟨s,h1,h2⟩=>?_⟩⟩
 ·by_cases e:s=st∧j=i
  ·rw [e.1,e.2] at h2;exact absurd h2 hn
  ·exact ⟨s,j,by omega,h2,h3⟩
 ·by_cases e:s=st∧j=i
  ·rw [e.1,e.2] at h2;exact absurd h2 hn
  ·exact ⟨s,by omega,h2⟩
theorem Acc.add {st i own:Nat} {l:List Bool} (a:Acc D p st i l own) (hn:NXo D p st i) (hi:i<16) (hs:D.stepR st p i<D.lim):Acc D p st (i+1) (l.set (D.stepR st p i) true) (own ||| 2^i):=by
 obtain ⟨a1,a2,a3,a4⟩:=a
 refine ⟨by rw [List.length_set];exact a1,zIr a2 hi,fun r hr=>?_,fun j=>?_⟩
 ·rw [wK (by omega)]
  split
  ·next e=>exact ⟨fun _=>⟨st,i,by omega,hn,e.symm⟩,fun _=>rfl⟩
  ·next e=>
   refine (a3 r hr).trans ⟨fun ⟨s,j,h1,h2,h3⟩=>⟨s,j,by omega,h2,h3⟩,fun ⟨s,j,h1,h2,h3⟩=>?_⟩
   by_cases e2:s=st∧j=i
   ·rw [e2.1,e2.2] at h3;exact absurd h3.symm e
   ·exact ⟨s,j,by omega,h2,h3⟩
 ·rw [zIs,Bool.or_eq_true,decide_eq_true_eq,a4 j]
  constructor
  ·rintro (⟨s,h1,h2⟩ | rfl)
   ·exact ⟨s,by omega,h2⟩
   ·exact ⟨st,by omega,hn⟩
  ·rintro ⟨s,h1,h2⟩
   by_cases e:s=st∧j=i
   ·exact .inr e.2.symm
   ·exact .inl ⟨s,by omega,h2⟩
theorem Acc.next {st i own:Nat} {l:List Bool} (a:Acc D p st i l own) (hn:∀j,i≤j→¬NXo D p st j):Acc D p (st+1) 0 l own:=by
 obtain ⟨a1,a2,a3,a4⟩:=a
 refine ⟨a1,a2,fun r hr=>(a3 r hr).trans ⟨fun ⟨s,j,h1,h2,h3⟩=>⟨s,j,by omega,h2,h3⟩,fun ⟨s,j,h1,h2,h3⟩=>?_⟩,fun j=>(a4 j).trans ⟨fun ⟨s,h1,h2⟩=>⟨s,by omega,h2⟩,fun ⟨s,h1,h2⟩=>?_⟩⟩
 ·by_cases e:s=st∧i≤j
  ·rw [e.1] at h2;exact absurd h2 (hn j e.2)
  ·exact ⟨s,j,by omega,h2,h3⟩
 ·by_cases e:s=st∧i≤j
  ·rw [e.1] at h2;exact absurd h2 (hn j e.2)
  ·exact ⟨s,by omega,h2⟩
theorem Acc.now {own:Nat} {l:List Bool} (ok:D.OK) (a:Acc D p D.lim 0 l own):∀r,r<D.lim→(l.getD r false=true↔D.now (p+1) r):=fun r hr=>by
 refine (a.2.2.1 r hr).trans ⟨fun ⟨s,j,_,⟨h1,h2,h3,h4⟩,h5⟩=>⟨s,j,h1,h2,h3,by rw [h5];exact h4,h5⟩,fun ⟨s,j,h1,h2,h3,h4,h5⟩=>⟨s,j,.inl (Dp.now_lt ok p s h1),⟨h1,h2,h3,by rw [←h5];exact h4⟩,h5⟩⟩
theorem Acc.stand {own:Nat} {l:List Bool} (ok:D.OK) (a:Acc D p D.lim 0 l own):zcf D p own:=by
 refine ⟨a.2.1,fun j=>(a.2.2.2 j).trans ⟨fun ⟨s,_,h1,h2,h3,h4⟩=>⟨h2,s,h1,h3,h4⟩,fun ⟨h2,s,h1,h3,h4⟩=>⟨s,.inl (Dp.now_lt ok p s h1),h1,h2,h3,h4⟩⟩⟩
end
section
variable {c:Int} {ts:List Tile} {plan borders:List (List Int)} {u q bq:Sl}
set_option maxHeartbeats 1000000 in
theorem zbo (hs:setOK c ts) (hp:zJ c ts.length plan borders) {h:H} (ru:Rd h u 4 (tcs ts)) (rq:RdSS h q plan) (rb:RdSS h bq borders):
  callS SP zjm [.agg (SetC c u),.sl q,.sl bq] h fun v h'=>(∃us:List Int,Rd h' v 1 (ic us)∧us.length=(dpOf c ts plan borders).size∧∀p,p<(dpOf c ts plan borders).size→∃m:Nat,us.getD p 0=(m:Int)∧zcf (dpOf c ts plan borders) p m)∧Fr h.length v∧Ext h h':=by
 obtain ⟨d1,d2,d3,d4,d5,d6,d7,d8,d9⟩:=dims hs hp
 have ok:=wF hs hp
 have hcanc:=fun {h:H} (ru:Rd h u 4 (tcs ts)) (rq:RdSS h q plan) (rb:RdSS h bq borders) (s p i:Nat) (a:s<(dpOf c ts plan borders).c^((dpOf c ts plan borders).w+1)) (b:i<ts.length) (d:p<plan.length*(rw_ plan 0).length)=>zBB hs hp ru rq rb a b d
 have hstepc:=fun {h:H} (ru:Rd h u 4 (tcs ts)) (s p i:Nat) (a:s<(dpOf c ts plan borders).c^((dpOf c ts plan borders).w+1)) (b:i<ts.length) (d:p≤1000)=>zrd hs hp (borders:=borders) ru a b d
 have hlayc:=fun {h:H} (ru:Rd h u 4 (tcs ts)) (rq:RdSS h q plan) (rb:RdSS h bq borders)=>XW hs hp ru rq rb
 have Dn':(dpOf c ts plan borders).n=ts.length:=rfl
 have Ds':(dpOf c ts plan borders).size=plan.length*(rw_ plan 0).length:=rfl
 have Dc':(dpOf c ts plan borders).c=c.toNat:=rfl
 have Dw':(dpOf c ts plan borders).w=(rw_ plan 0).length:=rfl
 generalize dpOf c ts plan borders=D at ok hcanc hstepc hlayc Dn' Ds' Dc' Dw' ⊢
 have hb:D.c^(D.w+1)≤46656:=zV (by omega) (by omega)
 have hlim:D.lim≤46656:=hb
 have hlim0:0<D.lim:=Nat.pow_pos ok.hc
 have hql:=rq.len
 have hul:=ru.tlen
 apply zCp
 unfold zcX
 refine zk fun h1 o1 x1 l1=>?_
 refine o1.ldA rfl ?_
 refine (hlayc (ru.ext x1) (rq.ext x1) (rb.ext x1)).to ?_
 rintro s4 h3 ⟨lt,x3⟩
 refine (rq.ext x1).ixC (i:=0) (by omega) (by omega) fun p5 v0 hp5 rv0 lv0=>⟨v0,x3.cell hp5,(x3.cellE hp5).symm,?_⟩
 replace lv0:v0.len=(rw_ plan 0).length:=lv0
 clear rv0
 have lt0:=lt
 obtain ⟨vs,hvl,rvs,hrow⟩:=lt
 have ls4:s4.len=D.size+1:=by have:=rvs.len;rw [List.length_map,Nat.mul_one] at this;omega
 refine rvs.ldS (by omega) (by omega) fun s8 hs8=>?_
 obtain ⟨l8,r8,y8⟩:=hrow 0 s8 hs8
 have ls8:=r8.ilen
 rw [y8.1] at ls8
 refine qQ (by omega) (by unfold lim;omega) fun s9 h10 os9 ls9 so9 e10=>?_
 have x10:Ext h3 h10:=by rw [e10];exact Ext.app _ _
 have zb:∀n:Nat,n=D.lim→(List.replicate (n:Int).toNat [AVal.bool false]).flatten=(List.replicate D.lim false).map .bool:=fun n e=>by
  rw [List.map_replicate,Int.toNat_natCast,e];simp
 rw [zb _ ls8] at os9
 refine zj (by rfl) fun s11 h12 os11 ls11 so11 e12=>?_
 have x12:Ext h10 h12:=by rw [e12];exact Ext.app _ _
 have l10:h10.length=h3.length+1:=by rw [e10];simp
 refine (os9.ext x12).stC (by omega) (by omega) _ fun h14 os14 b14 n14=>?_
 rw [so9] at b14
 have x314:Ext h3 h14:=(x10.trans x12).but_ b14 (zi (Nat.le_refl _))
 have eset:((List.replicate D.lim false).map AVal.bool).set (Int.toNat 0) (.bool true)=((List.replicate D.lim false).set 0 true).map .bool:=by rw [List.map_set];rfl
 rw [eset] at os14
 have lx3:=x3.len
 have Z:∀r,r<D.lim→(List.replicate D.lim false).getD r false=false:=fun r hr=>by rw [List.getD_eq_getElem?_getD,List.getElem?_replicate,if_pos hr];rfl
 refine zsq _ _ _ _ _ _ _ (fun s9 s10 i g=>∃(p:Nat) (bl:List Bool) (us:List Int),i=p∧p≤D.size∧Rd g s9 1 (bl.map .bool)∧s9.o≠some h10.length∧bl.length=D.lim∧(∀r,r<D.lim→(bl.getD r false=true↔D.now p r))∧Ow g s10 1 (ic us)∧s10.o=some h10.length∧us.length=p∧(∀p',p'<p→∃m:Nat,us.getD p' 0=(m:Int)∧zcf D p' m)∧Ext h3 g) (fun _ _ i _=>(D.size-i).toNat) ?_ _ _ _
  ⟨0,_,[],rfl,by omega,os14.rd,by rw [so9];intro e;have:=Option.some.inj e;omega,by simp,fun r hr=>by
   rw [wK (by simp;exact hlim0)]
   split
   ·next e=>exact ⟨fun _=>e.symm,fun _=>rfl⟩
   ·next e=>rw [Z r hr];exact ⟨fun e2=>by simp at e2,fun e2=>absurd (show r=0 from e2).symm e⟩,os11.but b14 (.inl (by rw [so11];intro e;have:=Option.some.inj e;omega)),so11,rfl,fun p' hp'=>by omega,x314⟩
 rintro X s9' s10 _ g ⟨p,bl,us,rfl,hp',r9,o9n,hbl,hnow,os10,so10,hul10,hus,xg⟩ hX
 unfold zsx zFk
 have ls9':s9'.len=D.lim:=by have:=r9.len;rw [List.length_map,hbl,Nat.mul_one] at this;omega
 rw [zf (n:=(p:Int)+1) (by omega) (by omega),ls4]
 refine zc (fun hi=>?_) (fun hi=>?_)
 ·have hpl:p<D.size:=by omega
  rw [ls9']
  refine qQ (by omega) (by unfold lim;omega) fun s12 g1 os12 ls12 so12 eg1=>?_
  have xa:Ext g g1:=by rw [eg1];exact Ext.app _ _
  have lg1:g1.length=g.length+1:=by rw [eg1];simp
  rw [zb _ rfl] at os12
  have ls12':s12.len=D.lim:=by rw [ls12];omega
  have hgx:=xg.len
  have hg10:=os10.lt so10
  refine zsp _ _ X _ _ _ _ _ _ _ _ _ (fun own st g'=>∃(m k:Nat) (nl:List Bool),own=m∧st=k∧k≤D.lim∧Ow g' s12 1 (nl.map .bool)∧Acc D p k 0 nl m∧Ext g g') (fun _ st _=>(D.lim-st).toNat) ?_ _ _
   ⟨0,0,_,rfl,rfl,by omega,os12,Acc.start (by simp) Z,xa⟩
  rintro Y _ _ g2 ⟨m,st,nl,rfl,rfl,hst,os12,acc,x2⟩ hY
  unfold zsw zFi zFj
  rw [ls9']
  refine zc (fun hi2=>?_) (fun hi2=>?_)
  ·have hstl:st<D.lim:=by omega
   refine zso _ _ X Y _ _ _ _ _ _ _ _ _ _ (fun own i g'=>∃(m k:Nat) (nl:List Bool),own=m∧i=k∧k≤D.n∧Ow g' s12 1 (nl.map .bool)∧Acc D p st k nl m∧Ext g g') (fun _ i _=>(D.n-i).toNat) ?_ _ _
    ⟨m,0,nl,rfl,rfl,by omega,os12,acc,x2⟩
   rintro Z' _ _ g3 ⟨m3,i,nl3,rfl,rfl,hin,os3,acc3,x03⟩ hZ
   unfold zsv zsy zFh
   have xx3:Ext h1 g3:=x3.trans (xg.trans x03)
   have o3:=o1.ext xx3
   have xh3:=x1.trans xx3
   refine zh (o3.ldS (i:=1) rfl rfl ?_)
   have nxt:(∀j,i≤j→¬NXo D p st j)→Y (zbw q bq ⟨some h.length,2,0⟩ s4 v0.len s9' s10 p s12 m3 (w64 (st+1))) g3:=fun hn=>by
    rw [zf (n:=(st:Int)+1) (by omega) (by omega)]
    exact hY _ _ _ ⟨m3,st+1,nl3,rfl,by push_cast;rfl,by omega,os3,acc3.next hn,x03⟩ (by omega)
   refine zc (fun hi3=>?_) (fun hi3=>nxt fun j hj hn=>by have:=hn.2.1;omega)
   have hil:i<ts.length:=by omega
   refine Rd.ldB (r9.ext x03) (by omega) (by rw [hbl];omega) fun b hb2=>?_
   rw [Int.toNat_natCast] at hb2
   have hbn:b=true↔D.now p st:=by
    have:=hnow st hstl
    rw [List.getD_eq_getElem?_getD,hb2] at this
    exact this
   refine yy (fun qn=>?_) (fun qn=>nxt fun j _ hn=>by have:=hbn.2 hn.1;rw [qn] at this;cases this)
   have hn:=hbn.1 qn
   refine o3.ldA rfl ?_
   refine (hcanc (ru.ext xh3) (rq.ext xh3) (rb.ext xh3) st p i hstl hil (by omega)).to ?_
   rintro _ g4 ⟨rfl,x4⟩
   refine zr (fun qc=>?_) (fun qc=>?_)
   ·rw [zf (n:=(i:Int)+1) (by omega) (by omega)]
    exact hZ _ _ _ ⟨m3,i+1,nl3,rfl,by push_cast;rfl,by omega,os3.ext x4,acc3.skip (fun h=>by have:=h.2.2.1;rw [qc] at this;cases this),x03.trans x4⟩ (by omega)
   have o4:=o3.ext x4
   refine o4.ldA rfl ?_
   have xh4:=xh3.trans x4
   rw [lv0]
   refine (hstepc (ru.ext xh4) st p i hstl hil (by omega)).to ?_
   rintro _ g5 ⟨rfl,x5⟩
   have x05:=(x03.trans x4).trans x5
   rw [zf (n:=(p:Int)+1) (by omega) (by omega)]
   have x35:=xg.trans x05
   refine (rvs.ext x35).ldS (by omega) (by omega) fun w hw=>?_
   rw [show ((p:Int)+1).toNat=p+1 by omega] at hw
   obtain ⟨ln,rn,yn⟩:=hrow (p+1) w hw
   have hsl:D.stepR st p i<D.lim:=Dp.stepR_lt ok (by omega)
   refine (rn.ext x35).ldG (by omega) (by rw [yn.1];omega) ?_
   rw [Int.toNat_natCast]
   obtain ⟨y1,y2,y3⟩:=yn.tri hsl
   rw [←lv0]
   refine zc (fun ql=>?_) (fun ql=>?_)
   ·refine ((os3.ext x4).ext x5).stC (by omega) (by omega) _ fun g6 os6 b6 n6=>?_
    rw [Int.toNat_natCast,←List.map_set] at os6
    refine ⟨by rw [zgv i (by omega)];omega,?_⟩
    rw [or16 acc3.2.1 (by omega),zf (n:=(i:Int)+1) (by omega) (by omega)]
    exact hZ _ _ _ ⟨_,i+1,_,rfl,by push_cast;rfl,by omega,os6,acc3.add ⟨hn,by omega,qc,y3.1 ql⟩ (by omega) hsl,x05.but_ b6 (by rw [so12];exact zi (Nat.le_refl _))⟩ (by omega)
   ·rw [zf (n:=(i:Int)+1) (by omega) (by omega)]
    exact hZ _ _ _ ⟨m3,i+1,nl3,rfl,by push_cast;rfl,by omega,(os3.ext x4).ext x5,acc3.skip (fun h=>ql (y3.2 h.2.2.2)),x05⟩ (by omega)
  ·have hstl:st=D.lim:=by omega
   subst hstl
   refine zqM (os10.ext x2) (by rw [hul10];unfold lim;omega) fun s' g5 os5 b5 k5=>?_
   rw [so10] at b5
   rw [zf (n:=(p:Int)+1) (by omega) (by omega)]
   refine hX _ _ _ _ ⟨p+1,nl,us++[(m:Int)],by push_cast;rfl,by omega,(os12.but b5 (.inl (by rw [so12];intro e;have:=Option.some.inj e;omega))).rd,by rw [so12];intro e;have:=Option.some.inj e;omega,acc.1,acc.now ok,os5,k5 _ so10,by simp [hul10],fun p' hp2=>?_,(xg.trans x2).but_ b5 (zi (by omega))⟩ (by omega)
   rcases Nat.lt_or_ge p' p with h5 | h5
   ·obtain ⟨m',e1,e2⟩:=hus p' h5
    exact ⟨m',by rw [List.getD_eq_getElem?_getD,List.getElem?_append_left (by omega),←List.getD_eq_getElem?_getD];exact e1,e2⟩
   ·have:p'=p:=by omega
    subst this
    exact ⟨m,by rw [List.getD_eq_getElem?_getD,List.getElem?_append_right (by omega),hul10,Nat.sub_self];rfl,acc.stand ok⟩
 ·have hpl:p=D.size:=by omega
  subst hpl
  exact ⟨_,rfl,⟨us,os10.rd,hul10,hus⟩,fun o e=>by rw [so10] at e;cases e;omega,x1.trans (x3.trans xg)⟩
end
end Go.Proofs.YtlcgclmobfdbcaaGreat.Cl
set_option linter.unusedVariables false
namespace Go.Proofs.YtlcgclmobfdbcaaGreat.Cl
open Go
def zB:Nat→List Nat:=fun i=>bif i==1017 then [8,9] else bif i==1016 then [18] else bif i==2016 then [0,0,2,0,8,24,56,0,248,504,1022,2047,4095] else bif i==1015 then [4,11,14,18,174] else bif i==1014 then [4,11,13,14,18] else bif i==2014 then [0,0,2,0,0,24,62,0,128,384,896,0,3968,8064,16382,32767,0,0,196664,0,524288,1572864,3670016,0,16252928,33030144,67043384,134217727,268435455] else bif i==1013 then [8,9] else bif i==1012 then [4,6,11,13,14,17,120] else bif i==1011 then [8,9] else bif i==1010 then [4,6,10,11,12,13,14,16,17,99] else bif i==2010 then [0,1,3,7,7,31,63,127,255,511,1023,2047,4095,4095,16383,4095,36863,131071,262143,524287,1048575] else bif i==1009 then [8,9] else bif i==1008 then [4,6,10,11,12,13,14,16,17,78] else bif i==2008 then [0,1,3,7,7,31,63,127,255,511,1023,2047,4095,4095,16383,4095,36863,131071,262143,524287,1048575] else bif i==1007 then [8,9] else bif i==1006 then [4,6,10,11,12,13,14,16,17,52] else bif i==1005 then [3,4,6,10,11,12,13,14,16,17] else bif i==1004 then [3,4,6,10,11,12,13,14,15,16] else bif i==1003 then [3,4,6,10,11,12,13,14,15] else bif i==2003 then [0,1,3,7,15,0,63,127,0,256,768,1792,3840,0,0,24831,65535] else bif i==1002 then [3,4,6,10,11,12,13] else bif i==2002 then [0,0,3,0,0,24,7,127] else bif i==1001 then [1,3,4,6,10,11] else bif i==2001 then [0,1,3,7,15,0,32,96,224,480,992,2016,31,8191] else bif i==1000 then [1,3,4,6] else []
theorem zyW:(za Tryz.f128) = .seq (sq Tryz.f128 1 0) (sq Tryz.f128 1 1):=by kernel_rfl
def zmJ (S:SatT) (K:KT):Kont:=kSeq (cwp S tab zB [] (sq Tryz.f128 1 1) (kFun tab (Tryz.f128).results.toList K)) (kFun tab (Tryz.f128).results.toList K)
def zkH (i1_ i3_:Int) (p4_ p6_:Pt):Frame:=(U :: .int .i64 i1_::U :: .int .i64 i3_ :: .ptr p4_::U :: .ptr p6_::uu 181 [])
def VX (S:SatT) (k:Kont) (x0:Pt) (x1 x2 x3:Int) (h:H):Prop:=
 newO [.ptr x0] h fun p0 h1=>
 newO [.int .i64 x2] h1 fun p2 h3=>
 k .normal (zkH x1 x3 p0 p2) h3
theorem zav (S:SatT) (k:Kont) (m:List Nat) (x0:Pt) (x1 x2 x3:Int) (h:H):cwp S tab zB m (sq Tryz.f128 1 0) k (fr0 Tryz.f128 [.ptr x0,.int .i64 x1,.int .i64 x2,.int .i64 x3]) h=VX S k x0 x1 x2 x3 h:=by kernel_rfl
theorem zyV:(sq Tryz.f128 1 1) = .seq (sq Tryz.f128 2 2) (sq Tryz.f128 2 3):=by kernel_rfl
def zmI (S:SatT) (K:KT):Kont:=kSeq (cwp S tab zB [] (sq Tryz.f128 2 3) (kFun tab (Tryz.f128).results.toList K)) (kFun tab (Tryz.f128).results.toList K)
def zkG (i1_ i3_:Int) (p4_ p6_:Pt) (i10_ i11_:Int):Frame:=(U :: .int .i64 i1_::U :: .int .i64 i3_ :: .ptr p4_::U :: .ptr p6_::U::U::U :: .int .i64 i10_ :: .int .i64 i11_::uu 176 [])
def VM (S:SatT) (k:Kont) (i1_ i3_:Int) (p4_ p6_:Pt) (h:H):Prop:=
 ldP p4_ h fun p0=>
 nilC (.ptr p0) (
 isPt p0 (
 ldS (Pt.add p0 2) h fun s1=>
 ldP p4_ h fun p2=>
 nilC (.ptr p2) (
 isPt p2 (
 ldS (Pt.add p2 2) h fun s3=>
 ixS s3 1 (0) fun p4=>
 ldS p4 h fun s5=>
 k .normal (zkG i1_ i3_ p4_ p6_ (s1.len:Int) (s5.len:Int)) h))))
theorem zau (S:SatT) (k:Kont) (m:List Nat) (i1_ i3_:Int) (p4_ p6_:Pt) (h:H):cwp S tab zB m (sq Tryz.f128 2 2) k (zkH i1_ i3_ p4_ p6_) h=VM S k i1_ i3_ p4_ p6_ h:=by kernel_rfl
theorem zyU:(sq Tryz.f128 2 3) = .seq (sq Tryz.f128 3 6) (sq Tryz.f128 3 7):=by kernel_rfl
def zmH (S:SatT) (K:KT):Kont:=kSeq (cwp S tab zB [] (sq Tryz.f128 3 7) (kFun tab (Tryz.f128).results.toList K)) (kFun tab (Tryz.f128).results.toList K)
def zkF (i3_:Int) (p4_ p6_:Pt) (i10_ i11_:Int) (i12_ i13_:Int):Frame:=(U::U::U :: .int .i64 i3_ :: .ptr p4_::U :: .ptr p6_::U::U::U :: .int .i64 i10_ :: .int .i64 i11_ :: .int .i64 i12_ :: .int .i64 i13_::uu 174 [])
def VL (S:SatT) (k:Kont) (i1_ i3_:Int) (p4_ p6_:Pt) (i10_ i11_:Int) (h:H):Prop:=
 nz i11_ (
 nz i11_ (
 k .normal (zkF i3_ p4_ p6_ i10_ i11_ (w64 (Int.tdiv i1_ i11_)) (Int.tmod i1_ i11_)) h))
theorem zat (S:SatT) (k:Kont) (m:List Nat) (i1_ i3_:Int) (p4_ p6_:Pt) (i10_ i11_:Int) (h:H):cwp S tab zB m (sq Tryz.f128 3 6) k (zkG i1_ i3_ p4_ p6_ i10_ i11_) h=VL S k i1_ i3_ p4_ p6_ i10_ i11_ h:=by kernel_rfl
theorem zyT:(sq Tryz.f128 3 7) = .seq (sq Tryz.f128 4 14) (sq Tryz.f128 4 15):=by kernel_rfl
def zmG (S:SatT) (K:KT):Kont:=kSeq (cwp S tab zB [] (sq Tryz.f128 4 15) (kFun tab (Tryz.f128).results.toList K)) (kFun tab (Tryz.f128).results.toList K)
def zkE (i3_:Int) (p4_ p6_:Pt) (i10_ i11_:Int) (i12_ i13_:Int) (p14_ p15_:Pt):Frame:=(U::U::U :: .int .i64 i3_ :: .ptr p4_::U :: .ptr p6_::U::U::U :: .int .i64 i10_ :: .int .i64 i11_ :: .int .i64 i12_ :: .int .i64 i13_ :: .ptr p14_ :: .ptr p15_::uu 172 [])
def VK (S:SatT) (k:Kont) (i3_:Int) (p4_ p6_:Pt) (i10_ i11_:Int) (i12_ i13_:Int) (h:H):Prop:=
 vp 17 h fun h0=>
 ldP p4_ h0 fun p1=>
 nilC (.ptr p1) (
 isPt p1 (
 isPt (Pt.add p1 0) (
 ldS (Pt.add (Pt.add p1 0) 1) h0 fun s2=>
 ixS s2 4 i3_ fun p3=>
 ldA p3 4 h0 fun cs4=>
 ldP p4_ h0 fun p5=>
 nilC (.ptr p5) (
 isPt p5 (
 isPt (Pt.add p5 0) (
 ldI .i64 (Pt.add (Pt.add p5 0) 0) h0 fun n6=>
 zlD [.int .i64 (0),.int .i64 (0),.int .i64 (0),.int .i64 (0)] h0 (h.length+13) fun p7 h8=>
(cell h8 (Pt.add (Pt.add p5 0) 0)=cell h0 (Pt.add (Pt.add p5 0) 0))∧(
(cell h8 p4_=cell h0 p4_)∧(
(range h8 p3.o p3.n p3.off 4=range h0 p3.o p3.n p3.off 4)∧(
(cell h8 (Pt.add (Pt.add p1 0) 1)=cell h0 (Pt.add (Pt.add p1 0) 1))∧(
(cell h8 p4_=cell h0 p4_)∧(
 zlD [.int .i64 (0)] h8 (h.length+14) fun p9 h10=>
(cell h10 (Pt.add (Pt.add p5 0) 0)=cell h0 (Pt.add (Pt.add p5 0) 0))∧(
(cell h10 p4_=cell h0 p4_)∧(
(range h10 p3.o p3.n p3.off 4=range h0 p3.o p3.n p3.off 4)∧(
(cell h10 (Pt.add (Pt.add p1 0) 1)=cell h0 (Pt.add (Pt.add p1 0) 1))∧(
(cell h10 p4_=cell h0 p4_)∧(
 stN p7 4 cs4 h10 fun h11=>
(cell h11 (Pt.add (Pt.add p5 0) 0)=cell h0 (Pt.add (Pt.add p5 0) 0))∧(
(cell h11 p4_=cell h0 p4_)∧(
 st1 p9 (.int .i64 n6) h11 fun h12=>
 k .normal (zkE i3_ p4_ p6_ i10_ i11_ i12_ i13_ p7 p9) h12))))))))))))))))))
theorem zas (S:SatT) (k:Kont) (m:List Nat) (i3_:Int) (p4_ p6_:Pt) (i10_ i11_:Int) (i12_ i13_:Int) (h:H):cwp S tab zB m (sq Tryz.f128 4 14) k (zkF i3_ p4_ p6_ i10_ i11_ i12_ i13_) h=VK S k i3_ p4_ p6_ i10_ i11_ i12_ i13_ h:=by kernel_rfl
theorem zyS:(sq Tryz.f128 4 15) = .seq (sq Tryz.f128 5 30) (sq Tryz.f128 5 31):=by kernel_rfl
def zmF (S:SatT) (K:KT):Kont:=kSeq (cwp S tab zB [] (sq Tryz.f128 5 31) (kFun tab (Tryz.f128).results.toList K)) (kFun tab (Tryz.f128).results.toList K)
def zkD (i3_:Int) (p4_ p6_:Pt) (i10_ i11_:Int) (i12_ i13_:Int) (p14_ p15_:Pt) (f16_:AVal):Frame:=(U::U::U :: .int .i64 i3_ :: .ptr p4_::U :: .ptr p6_::U::U::U :: .int .i64 i10_ :: .int .i64 i11_ :: .int .i64 i12_ :: .int .i64 i13_ :: .ptr p14_ :: .ptr p15_::f16_::uu 171 [])
def VJ (S:SatT) (k:Kont) (i3_:Int) (p4_ p6_:Pt) (i10_ i11_:Int) (i12_ i13_:Int) (p14_ p15_:Pt) (h:H):Prop:=
 k .normal (zkD i3_ p4_ p6_ i10_ i11_ i12_ i13_ p14_ p15_ (.func 152 [.ptr p4_,.ptr p14_])) h
theorem zar (S:SatT) (k:Kont) (m:List Nat) (i3_:Int) (p4_ p6_:Pt) (i10_ i11_:Int) (i12_ i13_:Int) (p14_ p15_:Pt) (h:H):cwp S tab zB m (sq Tryz.f128 5 30) k (zkE i3_ p4_ p6_ i10_ i11_ i12_ i13_ p14_ p15_) h=VJ S k i3_ p4_ p6_ i10_ i11_ i12_ i13_ p14_ p15_ h:=by kernel_rfl
theorem zyR:(sq Tryz.f128 5 31) = .seq (sq Tryz.f128 6 62) (sq Tryz.f128 6 63):=by kernel_rfl
def zmE (S:SatT) (K:KT):Kont:=kSeq (cwp S tab zB [] (sq Tryz.f128 6 63) (kFun tab (Tryz.f128).results.toList K)) (kFun tab (Tryz.f128).results.toList K)
def zkC (i3_:Int) (p4_ p6_:Pt) (i10_ i11_:Int) (i12_ i13_:Int) (p14_:Pt) (f16_ f17_:AVal):Frame:=(U::U::U :: .int .i64 i3_ :: .ptr p4_::U :: .ptr p6_::U::U::U :: .int .i64 i10_ :: .int .i64 i11_ :: .int .i64 i12_ :: .int .i64 i13_ :: .ptr p14_::U::f16_::f17_::uu 170 [])
def VI (S:SatT) (k:Kont) (i3_:Int) (p4_ p6_:Pt) (i10_ i11_:Int) (i12_ i13_:Int) (p14_ p15_:Pt) (f16_:AVal) (h:H):Prop:=
 k .normal (zkC i3_ p4_ p6_ i10_ i11_ i12_ i13_ p14_ f16_ (.func 153 [.ptr p6_,.ptr p4_,.ptr p15_])) h
theorem zaq (S:SatT) (k:Kont) (m:List Nat) (i3_:Int) (p4_ p6_:Pt) (i10_ i11_:Int) (i12_ i13_:Int) (p14_ p15_:Pt) (f16_:AVal) (h:H):cwp S tab zB m (sq Tryz.f128 6 62) k (zkD i3_ p4_ p6_ i10_ i11_ i12_ i13_ p14_ p15_ f16_) h=VI S k i3_ p4_ p6_ i10_ i11_ i12_ i13_ p14_ p15_ f16_ h:=by kernel_rfl
theorem zyQ:(sq Tryz.f128 6 63) = .seq (sq Tryz.f128 7 126) (sq Tryz.f128 7 127):=by kernel_rfl
theorem zyP:(sq Tryz.f128 7 126) = .block 0 (sq Tryz.f128 8 252):=by kernel_rfl
theorem zyO:(sq Tryz.f128 8 252) = .seq (sq Tryz.f128 9 504) (sq Tryz.f128 9 505):=by kernel_rfl
def yh (S:SatT) (K:KT):Kont:=kSeq (cwp S tab zB [] (sq Tryz.f128 7 127) (kFun tab (Tryz.f128).results.toList K)) (kFun tab (Tryz.f128).results.toList K)
def zgf (S:SatT) (K:KT):Kont:=kSeq (cwp S tab zB (zB 0) (sq Tryz.f128 9 505) (kBlk 0 (yh S K))) (kBlk 0 (yh S K))
def YI (p4_ p6_:Pt) (i10_ i11_:Int) (i12_ i13_:Int) (p14_:Pt) (f16_ f17_:AVal) (b52_:Bool):Frame:=(uu 4 (.ptr p4_::U :: .ptr p6_::U::U::U :: .int .i64 i10_ :: .int .i64 i11_ :: .int .i64 i12_ :: .int .i64 i13_ :: .ptr p14_::U::f16_::f17_::uu 34 (.bool b52_::uu 135 [])))
def VH (S:SatT) (k:Kont) (i3_:Int) (p4_ p6_:Pt) (i10_ i11_:Int) (i12_ i13_:Int) (p14_:Pt) (f16_ f17_:AVal) (h:H):Prop:=
 ldP p4_ h fun p0=>
 nilC (.ptr p0) (
 isPt p0 (
 ldS (Pt.add p0 2) h fun s1=>
 ixS s1 1 i12_ fun p2=>
 ldS p2 h fun s3=>
 ixS s3 1 i13_ fun p4=>
 ldI .i64 p4 h fun n5=>
 bif (decide (n5≥(0))) then
 ldP p4_ h fun p6=>
 nilC (.ptr p6) (
 isPt p6 (
 ldS (Pt.add p6 2) h fun s7=>
 ixS s7 1 i12_ fun p8=>
 ldS p8 h fun s9=>
 ixS s9 1 i13_ fun p10=>
 ldI .i64 p10 h fun n11=>
 k .normal (YI p4_ p6_ i10_ i11_ i12_ i13_ p14_ f16_ f17_ (n11 != i3_)) h))
 else
 k .normal (YI p4_ p6_ i10_ i11_ i12_ i13_ p14_ f16_ f17_ false) h))
theorem zap (S:SatT) (k:Kont) (m:List Nat) (i3_:Int) (p4_ p6_:Pt) (i10_ i11_:Int) (i12_ i13_:Int) (p14_:Pt) (f16_ f17_:AVal) (h:H):cwp S tab zB m (sq Tryz.f128 9 504) k (zkC i3_ p4_ p6_ i10_ i11_ i12_ i13_ p14_ f16_ f17_) h=VH S k i3_ p4_ p6_ i10_ i11_ i12_ i13_ p14_ f16_ f17_ h:=by kernel_rfl
theorem zyN:(sq Tryz.f128 9 505) = .cond (.tmp 52) (sq Tryz.f128 10 1010) (sq Tryz.f128 10 1011):=by kernel_rfl
theorem zpj:(sq Tryz.f128 10 1010) = .seq (sq Tryz.f128 11 2020) (sq Tryz.f128 11 2021):=by kernel_rfl
def zmD (S:SatT) (K:KT):Kont:=kSeq (cwp S tab zB (zB 0) (sq Tryz.f128 11 2021) (kBlk 0 (yh S K))) (kBlk 0 (yh S K))
def zzb (i8_:Int) (b9_:Bool):Frame:=(uu 8 (.int .i64 i8_ :: .bool b9_::uu 178 []))
def VG (S:SatT) (k:Kont) (p4_ p6_:Pt) (i10_ i11_:Int) (i12_ i13_:Int) (p14_:Pt) (f16_ f17_:AVal) (b52_:Bool) (h:H):Prop:=
 k .normal (zzb (0) false) h
theorem zao (S:SatT) (k:Kont) (m:List Nat) (p4_ p6_:Pt) (i10_ i11_:Int) (i12_ i13_:Int) (p14_:Pt) (f16_ f17_:AVal) (b52_:Bool) (h:H):cwp S tab zB m (sq Tryz.f128 11 2020) k (YI p4_ p6_ i10_ i11_ i12_ i13_ p14_ f16_ f17_ b52_) h=VG S k p4_ p6_ i10_ i11_ i12_ i13_ p14_ f16_ f17_ b52_ h:=by kernel_rfl
theorem zpi:(sq Tryz.f128 11 2021) = .ret:=by kernel_rfl
def zyY (S:SatT) (K:KT) (i8_:Int) (b9_:Bool) (h:H):Prop:=
 K (.tuple [.int .i64 i8_,.bool b9_]) h
theorem zze (S:SatT) (K:KT) (i8_:Int) (b9_:Bool) (h:H):(zmD S K) .normal (zzb i8_ b9_) h=zyY S K i8_ b9_ h:=by
 unfold zyY
 refine (zm _ _ _ _).trans ?_
 refine (yu zpi).trans ?_
 refine (zlH _ _ _ _).trans ?_
 refine (Wa _ _ _ _).trans ?_
 kernel_rfl
theorem zph:(sq Tryz.f128 10 1011) = .seq (sq Tryz.f128 11 2022) (sq Tryz.f128 11 2023):=by kernel_rfl
def Xq (S:SatT) (K:KT):Kont:=kSeq (cwp S tab zB (zB 0) (sq Tryz.f128 11 2023) (kBlk 0 (yh S K))) (kBlk 0 (yh S K))
def wY (p4_ p6_:Pt) (i10_ i11_:Int) (i12_ i13_:Int) (p14_:Pt) (f16_ f17_:AVal) (b78_:Bool):Frame:=(uu 4 (.ptr p4_::U :: .ptr p6_::U::U::U :: .int .i64 i10_ :: .int .i64 i11_ :: .int .i64 i12_ :: .int .i64 i13_ :: .ptr p14_::U::f16_::f17_::uu 60 (.bool b78_::uu 109 [])))
def Z0 (S:SatT) (k:Kont) (p4_ p6_:Pt) (i10_ i11_:Int) (i12_ i13_:Int) (p14_:Pt) (f16_ f17_:AVal) (b52_:Bool) (h:H):Prop:=
 bif (i12_==(0)) then
 viaF f16_ [.int .i64 (1),.int .i64 i13_] fun g0 ys1=>
 callB S g0 ys1 h fun b3 h2=>
 bif (!b3) then
 k .normal (wY p4_ p6_ i10_ i11_ i12_ i13_ p14_ f16_ f17_ true) h2
 else
 bif (decide (i12_>(0))) then
 viaF f17_ [.int .i64 i13_] fun g4 ys5=>
 callI S .i64 g4 ys5 h2 fun n7 h6=>
 ixA p14_ 4 1 (1) fun p8=>
 ldI .i64 p8 h6 fun n9=>
(cell h2 p8=cell h6 p8)∧(
 k .normal (wY p4_ p6_ i10_ i11_ i12_ i13_ p14_ f16_ f17_ (n7 != n9)) h6)
 else
 k .normal (wY p4_ p6_ i10_ i11_ i12_ i13_ p14_ f16_ f17_ false) h2
 else
 bif (decide (i12_>(0))) then
 viaF f17_ [.int .i64 i13_] fun g10 ys11=>
 callI S .i64 g10 ys11 h fun n13 h12=>
 ixA p14_ 4 1 (1) fun p14=>
 ldI .i64 p14 h12 fun n15=>
(cell h p14=cell h12 p14)∧(
 k .normal (wY p4_ p6_ i10_ i11_ i12_ i13_ p14_ f16_ f17_ (n13 != n15)) h12)
 else
 k .normal (wY p4_ p6_ i10_ i11_ i12_ i13_ p14_ f16_ f17_ false) h
theorem zan (S:SatT) (k:Kont) (m:List Nat) (p4_ p6_:Pt) (i10_ i11_:Int) (i12_ i13_:Int) (p14_:Pt) (f16_ f17_:AVal) (b52_:Bool) (h:H):cwp S tab zB m (sq Tryz.f128 11 2022) k (YI p4_ p6_ i10_ i11_ i12_ i13_ p14_ f16_ f17_ b52_) h=Z0 S k p4_ p6_ i10_ i11_ i12_ i13_ p14_ f16_ f17_ b52_ h:=by kernel_rfl
theorem zpg:(sq Tryz.f128 11 2023) = .cond (.tmp 78) (sq Tryz.f128 12 4046) (sq Tryz.f128 12 4047):=by kernel_rfl
theorem zpf:(sq Tryz.f128 12 4046) = .seq (sq Tryz.f128 13 8092) (sq Tryz.f128 13 8093):=by kernel_rfl
def zim (S:SatT) (K:KT):Kont:=kSeq (cwp S tab zB (zB 0) (sq Tryz.f128 13 8093) (kBlk 0 (yh S K))) (kBlk 0 (yh S K))
def zza (i8_:Int) (b9_:Bool):Frame:=(uu 8 (.int .i64 i8_ :: .bool b9_::uu 178 []))
def VF (S:SatT) (k:Kont) (p4_ p6_:Pt) (i10_ i11_:Int) (i12_ i13_:Int) (p14_:Pt) (f16_ f17_:AVal) (b78_:Bool) (h:H):Prop:=
 k .normal (zza (0) false) h
theorem zam (S:SatT) (k:Kont) (m:List Nat) (p4_ p6_:Pt) (i10_ i11_:Int) (i12_ i13_:Int) (p14_:Pt) (f16_ f17_:AVal) (b78_:Bool) (h:H):cwp S tab zB m (sq Tryz.f128 13 8092) k (wY p4_ p6_ i10_ i11_ i12_ i13_ p14_ f16_ f17_ b78_) h=VF S k p4_ p6_ i10_ i11_ i12_ i13_ p14_ f16_ f17_ b78_ h:=by kernel_rfl
theorem zpe:(sq Tryz.f128 13 8093) = .ret:=by kernel_rfl
def zyX (S:SatT) (K:KT) (i8_:Int) (b9_:Bool) (h:H):Prop:=
 K (.tuple [.int .i64 i8_,.bool b9_]) h
theorem zzc (S:SatT) (K:KT) (i8_:Int) (b9_:Bool) (h:H):(zim S K) .normal (zza i8_ b9_) h=zyX S K i8_ b9_ h:=by
 unfold zyX
 refine (zm _ _ _ _).trans ?_
 refine (yu zpe).trans ?_
 refine (zlH _ _ _ _).trans ?_
 refine (Wa _ _ _ _).trans ?_
 kernel_rfl
theorem zpd:(sq Tryz.f128 12 4047) = .seq (sq Tryz.f128 13 8094) (sq Tryz.f128 13 8095):=by kernel_rfl
def ZZ (S:SatT) (K:KT):Kont:=kSeq (cwp S tab zB (zB 0) (sq Tryz.f128 13 8095) (kBlk 0 (yh S K))) (kBlk 0 (yh S K))
def xJ (p4_ p6_:Pt) (i10_ i11_:Int) (i12_ i13_:Int) (p14_:Pt) (f16_ f17_:AVal) (b99_:Bool):Frame:=(uu 4 (.ptr p4_::U :: .ptr p6_::U::U::U :: .int .i64 i10_ :: .int .i64 i11_ :: .int .i64 i12_ :: .int .i64 i13_ :: .ptr p14_::U::f16_::f17_::uu 81 (.bool b99_::uu 88 [])))
def qD (S:SatT) (k:Kont) (p4_ p6_:Pt) (i10_ i11_:Int) (i12_ i13_:Int) (p14_:Pt) (f16_ f17_:AVal) (b78_:Bool) (h:H):Prop:=
 bif (i13_==(0)) then
 viaF f16_ [.int .i64 (0),.int .i64 i12_] fun g0 ys1=>
 callB S g0 ys1 h fun b3 h2=>
 bif (!b3) then
 k .normal (xJ p4_ p6_ i10_ i11_ i12_ i13_ p14_ f16_ f17_ true) h2
 else
 bif (decide (i13_>(0))) then
 viaF f17_ [.int .i64 i11_] fun g4 ys5=>
 callI S .i64 g4 ys5 h2 fun n7 h6=>
 ixA p14_ 4 1 (0) fun p8=>
 ldI .i64 p8 h6 fun n9=>
(cell h2 p8=cell h6 p8)∧(
 k .normal (xJ p4_ p6_ i10_ i11_ i12_ i13_ p14_ f16_ f17_ (n7 != n9)) h6)
 else
 k .normal (xJ p4_ p6_ i10_ i11_ i12_ i13_ p14_ f16_ f17_ false) h2
 else
 bif (decide (i13_>(0))) then
 viaF f17_ [.int .i64 i11_] fun g10 ys11=>
 callI S .i64 g10 ys11 h fun n13 h12=>
 ixA p14_ 4 1 (0) fun p14=>
 ldI .i64 p14 h12 fun n15=>
(cell h p14=cell h12 p14)∧(
 k .normal (xJ p4_ p6_ i10_ i11_ i12_ i13_ p14_ f16_ f17_ (n13 != n15)) h12)
 else
 k .normal (xJ p4_ p6_ i10_ i11_ i12_ i13_ p14_ f16_ f17_ false) h
theorem VW (S:SatT) (k:Kont) (m:List Nat) (p4_ p6_:Pt) (i10_ i11_:Int) (i12_ i13_:Int) (p14_:Pt) (f16_ f17_:AVal) (b78_:Bool) (h:H):cwp S tab zB m (sq Tryz.f128 13 8094) k (wY p4_ p6_ i10_ i11_ i12_ i13_ p14_ f16_ f17_ b78_) h=qD S k p4_ p6_ i10_ i11_ i12_ i13_ p14_ f16_ f17_ b78_ h:=by kernel_rfl
theorem zpc:(sq Tryz.f128 13 8095) = .cond (.tmp 99) (sq Tryz.f128 14 16190) (sq Tryz.f128 14 16191):=by kernel_rfl
theorem zpb:(sq Tryz.f128 14 16190) = .seq (sq Tryz.f128 15 32380) (sq Tryz.f128 15 32381):=by kernel_rfl
def zil (S:SatT) (K:KT):Kont:=kSeq (cwp S tab zB (zB 0) (sq Tryz.f128 15 32381) (kBlk 0 (yh S K))) (kBlk 0 (yh S K))
def zmL (i8_:Int) (b9_:Bool):Frame:=(uu 8 (.int .i64 i8_ :: .bool b9_::uu 178 []))
def YH (S:SatT) (k:Kont) (p4_ p6_:Pt) (i10_ i11_:Int) (i12_ i13_:Int) (p14_:Pt) (f16_ f17_:AVal) (b99_:Bool) (h:H):Prop:=
 k .normal (zmL (0) false) h
theorem VV (S:SatT) (k:Kont) (m:List Nat) (p4_ p6_:Pt) (i10_ i11_:Int) (i12_ i13_:Int) (p14_:Pt) (f16_ f17_:AVal) (b99_:Bool) (h:H):cwp S tab zB m (sq Tryz.f128 15 32380) k (xJ p4_ p6_ i10_ i11_ i12_ i13_ p14_ f16_ f17_ b99_) h=YH S k p4_ p6_ i10_ i11_ i12_ i13_ p14_ f16_ f17_ b99_ h:=by kernel_rfl
theorem zpa:(sq Tryz.f128 15 32381) = .ret:=by kernel_rfl
def zmC (S:SatT) (K:KT) (i8_:Int) (b9_:Bool) (h:H):Prop:=
 K (.tuple [.int .i64 i8_,.bool b9_]) h
theorem zpp (S:SatT) (K:KT) (i8_:Int) (b9_:Bool) (h:H):(zil S K) .normal (zmL i8_ b9_) h=zmC S K i8_ b9_ h:=by
 unfold zmC
 refine (zm _ _ _ _).trans ?_
 refine (yu zpa).trans ?_
 refine (zlH _ _ _ _).trans ?_
 refine (Wa _ _ _ _).trans ?_
 kernel_rfl
theorem zoZ:(sq Tryz.f128 14 16191) = .seq (sq Tryz.f128 15 32382) (sq Tryz.f128 15 32383):=by kernel_rfl
def wL (S:SatT) (K:KT):Kont:=kSeq (cwp S tab zB (zB 0) (sq Tryz.f128 15 32383) (kBlk 0 (yh S K))) (kBlk 0 (yh S K))
def xe (p4_ p6_:Pt) (i11_ i13_:Int) (p14_:Pt) (f17_:AVal) (b120_:Bool):Frame:=(uu 4 (.ptr p4_::U :: .ptr p6_::uu 4 (.int .i64 i11_::U :: .int .i64 i13_ :: .ptr p14_::U::U::f17_::uu 102 (.bool b120_::uu 67 []))))
def qC (S:SatT) (k:Kont) (p4_ p6_:Pt) (i10_ i11_:Int) (i12_ i13_:Int) (p14_:Pt) (f16_ f17_:AVal) (b99_:Bool) (h:H):Prop:=
 bif (i12_==(w64 (i10_-(1)))) then
 viaF f16_ [.int .i64 (3),.int .i64 i13_] fun g0 ys1=>
 callB S g0 ys1 h fun b3 h2=>
 bif (!b3) then
 k .normal (xe p4_ p6_ i11_ i13_ p14_ f17_ true) h2
 else
 bif (i13_==(w64 (i11_-(1)))) then
 viaF f16_ [.int .i64 (2),.int .i64 i12_] fun g4 ys5=>
 callB S g4 ys5 h2 fun b7 h6=>
 k .normal (xe p4_ p6_ i11_ i13_ p14_ f17_ (!b7)) h6
 else
 k .normal (xe p4_ p6_ i11_ i13_ p14_ f17_ false) h2
 else
 bif (i13_==(w64 (i11_-(1)))) then
 viaF f16_ [.int .i64 (2),.int .i64 i12_] fun g8 ys9=>
 callB S g8 ys9 h fun b11 h10=>
 k .normal (xe p4_ p6_ i11_ i13_ p14_ f17_ (!b11)) h10
 else
 k .normal (xe p4_ p6_ i11_ i13_ p14_ f17_ false) h
theorem VU (S:SatT) (k:Kont) (m:List Nat) (p4_ p6_:Pt) (i10_ i11_:Int) (i12_ i13_:Int) (p14_:Pt) (f16_ f17_:AVal) (b99_:Bool) (h:H):cwp S tab zB m (sq Tryz.f128 15 32382) k (xJ p4_ p6_ i10_ i11_ i12_ i13_ p14_ f16_ f17_ b99_) h=qC S k p4_ p6_ i10_ i11_ i12_ i13_ p14_ f16_ f17_ b99_ h:=by kernel_rfl
theorem zoY:(sq Tryz.f128 15 32383) = .cond (.tmp 120) (sq Tryz.f128 16 64766) (sq Tryz.f128 16 64767):=by kernel_rfl
theorem zoX:(sq Tryz.f128 16 64766) = .seq (sq Tryz.f128 17 129532) (sq Tryz.f128 17 129533):=by kernel_rfl
def zik (S:SatT) (K:KT):Kont:=kSeq (cwp S tab zB (zB 0) (sq Tryz.f128 17 129533) (kBlk 0 (yh S K))) (kBlk 0 (yh S K))
def zmK (i8_:Int) (b9_:Bool):Frame:=(uu 8 (.int .i64 i8_ :: .bool b9_::uu 178 []))
def YG (S:SatT) (k:Kont) (p4_ p6_:Pt) (i11_ i13_:Int) (p14_:Pt) (f17_:AVal) (b120_:Bool) (h:H):Prop:=
 k .normal (zmK (0) false) h
theorem VT (S:SatT) (k:Kont) (m:List Nat) (p4_ p6_:Pt) (i11_ i13_:Int) (p14_:Pt) (f17_:AVal) (b120_:Bool) (h:H):cwp S tab zB m (sq Tryz.f128 17 129532) k (xe p4_ p6_ i11_ i13_ p14_ f17_ b120_) h=YG S k p4_ p6_ i11_ i13_ p14_ f17_ b120_ h:=by kernel_rfl
theorem zoW:(sq Tryz.f128 17 129533) = .ret:=by kernel_rfl
def zmB (S:SatT) (K:KT) (i8_:Int) (b9_:Bool) (h:H):Prop:=
 K (.tuple [.int .i64 i8_,.bool b9_]) h
theorem zpn (S:SatT) (K:KT) (i8_:Int) (b9_:Bool) (h:H):(zik S K) .normal (zmK i8_ b9_) h=zmB S K i8_ b9_ h:=by
 unfold zmB
 refine (zm _ _ _ _).trans ?_
 refine (yu zoW).trans ?_
 refine (zlH _ _ _ _).trans ?_
 refine (Wa _ _ _ _).trans ?_
 kernel_rfl
theorem zoV:(sq Tryz.f128 16 64767) = .skip:=by kernel_rfl
theorem zoU:(sq Tryz.f128 7 127) = .seq (sq Tryz.f128 8 254) (sq Tryz.f128 8 255):=by kernel_rfl
def VE (S:SatT) (K:KT):Kont:=kSeq (cwp S tab zB [] (sq Tryz.f128 8 255) (kFun tab (Tryz.f128).results.toList K)) (kFun tab (Tryz.f128).results.toList K)
def zgh (p4_:Pt) (i11_ i13_:Int) (p14_:Pt) (i18_:Int):Frame:=(uu 4 (.ptr p4_::uu 6 (.int .i64 i11_::U :: .int .i64 i13_ :: .ptr p14_::U::U::U :: .int .i64 i18_::uu 169 [])))
def qB (S:SatT) (k:Kont) (p4_ p6_:Pt) (i11_ i13_:Int) (p14_:Pt) (f17_:AVal) (b120_:Bool) (h:H):Prop:=
 ldI .i64 p6_ h fun n0=>
 ixA p14_ 4 1 (3) fun p1=>
 ldI .i64 p1 h fun n2=>
 viaF f17_ [.int .i64 i13_] fun g3 ys4=>
 callI S .i64 g3 ys4 h fun n6 h5=>
(cell h5 p1=cell h p1)∧(
(cell h5 p6_=cell h p6_)∧(
 ldP p4_ h5 fun p7=>
(cell h p4_=cell h5 p4_)∧(
 nilC (.ptr p7) (
 isPt p7 (
 ldS (Pt.add p7 4) h5 fun s8=>
(cell h (Pt.add p7 4)=cell h5 (Pt.add p7 4))∧(
 ixS s8 1 i13_ fun p9=>
 ldI .i64 p9 h5 fun n10=>
(cell h p9=cell h5 p9)∧(
 viaF f17_ [.int .i64 i11_] fun g11 ys12=>
 callI S .i64 g11 ys12 h5 fun n14 h13=>
(cell h13 p9=cell h5 p9)∧(
(cell h13 (Pt.add p7 4)=cell h5 (Pt.add p7 4))∧(
(cell h13 p4_=cell h5 p4_)∧(
(cell h13 p1=cell h p1)∧(
(cell h13 p6_=cell h p6_)∧(
 ldP p4_ h13 fun p15=>
(cell h5 p4_=cell h13 p4_)∧(
(cell h p4_=cell h13 p4_)∧(
 nilC (.ptr p15) (
 isPt p15 (
 ldS (Pt.add p15 4) h13 fun s16=>
(cell h5 (Pt.add p15 4)=cell h13 (Pt.add p15 4))∧(
(cell h (Pt.add p15 4)=cell h13 (Pt.add p15 4))∧(
 ixS s16 1 i11_ fun p17=>
 ldI .i64 p17 h13 fun n18=>
(cell h5 p17=cell h13 p17)∧(
(cell h p17=cell h13 p17)∧(
 k .normal (zgh p4_ i11_ i13_ p14_ (w64 ((w64 (n0+(w64 ((w64 (n2-n6))*n10))))-(w64 (n14*n18))))) h13))))))))))))))))))))
theorem VS (S:SatT) (k:Kont) (m:List Nat) (p4_ p6_:Pt) (i11_ i13_:Int) (p14_:Pt) (f17_:AVal) (b120_:Bool) (h:H):cwp S tab zB m (sq Tryz.f128 8 254) k (xe p4_ p6_ i11_ i13_ p14_ f17_ b120_) h=qB S k p4_ p6_ i11_ i13_ p14_ f17_ b120_ h:=by kernel_rfl
theorem zoT:(sq Tryz.f128 8 255) = .seq (sq Tryz.f128 9 510) (sq Tryz.f128 9 511):=by kernel_rfl
theorem zoS:(sq Tryz.f128 9 510) = .seq (sq Tryz.f128 10 1020) (sq Tryz.f128 10 1021):=by kernel_rfl
def ZY (S:SatT) (K:KT):Kont:=kSeq (cwp S tab zB [] (sq Tryz.f128 9 511) (kFun tab (Tryz.f128).results.toList K)) (kFun tab (Tryz.f128).results.toList K)
def zij (S:SatT) (K:KT):Kont:=kSeq (cwp S tab zB [] (sq Tryz.f128 10 1021) (ZY S K)) (ZY S K)
def Xs (p4_:Pt) (i11_:Int) (p14_:Pt) (i18_:Int) (b174_:Bool):Frame:=(uu 4 (.ptr p4_::uu 6 (.int .i64 i11_::U::U :: .ptr p14_::U::U::U :: .int .i64 i18_::uu 155 (.bool b174_::uu 13 []))))
def YF (S:SatT) (k:Kont) (p4_:Pt) (i11_ i13_:Int) (p14_:Pt) (i18_:Int) (h:H):Prop:=
 k .normal (Xs p4_ i11_ p14_ i18_ (decide (i13_<(w64 (i11_-(1)))))) h
theorem VQ (S:SatT) (k:Kont) (m:List Nat) (p4_:Pt) (i11_ i13_:Int) (p14_:Pt) (i18_:Int) (h:H):cwp S tab zB m (sq Tryz.f128 10 1020) k (zgh p4_ i11_ i13_ p14_ i18_) h=YF S k p4_ i11_ i13_ p14_ i18_ h:=by kernel_rfl
theorem zoR:(sq Tryz.f128 10 1021) = .cond (.tmp 174) (sq Tryz.f128 11 2042) (sq Tryz.f128 11 2043):=by kernel_rfl
def zgg (i18_:Int):Frame:=(uu 18 (.int .i64 i18_::uu 169 []))
def YE (S:SatT) (k:Kont) (p4_:Pt) (i11_:Int) (p14_:Pt) (i18_:Int) (b174_:Bool) (h:H):Prop:=
 ixA p14_ 4 1 (2) fun p0=>
 ldI .i64 p0 h fun n1=>
 ldP p4_ h fun p2=>
 nilC (.ptr p2) (
 isPt p2 (
 ldS (Pt.add p2 4) h fun s3=>
 ixS s3 1 i11_ fun p4=>
 ldI .i64 p4 h fun n5=>
 k .normal (zgg (w64 (i18_+(w64 (n1*n5))))) h))
theorem VP (S:SatT) (k:Kont) (m:List Nat) (p4_:Pt) (i11_:Int) (p14_:Pt) (i18_:Int) (b174_:Bool) (h:H):cwp S tab zB m (sq Tryz.f128 11 2042) k (Xs p4_ i11_ p14_ i18_ b174_) h=YE S k p4_ i11_ p14_ i18_ b174_ h:=by kernel_rfl
theorem zbR:(sq Tryz.f128 9 511) = .seq (sq Tryz.f128 10 1022) (sq Tryz.f128 10 1023):=by kernel_rfl
def VD (S:SatT) (K:KT):Kont:=kSeq (cwp S tab zB [] (sq Tryz.f128 10 1023) (kFun tab (Tryz.f128).results.toList K)) (kFun tab (Tryz.f128).results.toList K)
def Xr (i8_:Int) (b9_:Bool):Frame:=(uu 8 (.int .i64 i8_ :: .bool b9_::uu 178 []))
def YD (S:SatT) (k:Kont) (i18_:Int) (h:H):Prop:=
 k .normal (Xr i18_ true) h
theorem VO (S:SatT) (k:Kont) (m:List Nat) (i18_:Int) (h:H):cwp S tab zB m (sq Tryz.f128 10 1022) k (zgg i18_) h=YD S k i18_ h:=by kernel_rfl
theorem zoQ:(sq Tryz.f128 10 1023) = .ret:=by kernel_rfl
def zmA (S:SatT) (K:KT) (i8_:Int) (b9_:Bool) (h:H):Prop:=
 K (.tuple [.int .i64 i8_,.bool b9_]) h
theorem zbS (S:SatT) (K:KT) (i8_:Int) (b9_:Bool) (h:H):(VD S K) .normal (Xr i8_ b9_) h=zmA S K i8_ b9_ h:=by
 unfold zmA
 refine (zm _ _ _ _).trans ?_
 refine (yu zoQ).trans ?_
 kernel_rfl
def zga (S:SatT) (K:KT) (i18_:Int) (h:H):Prop:=
 YD S (VD S K) i18_ h
theorem zpk (S:SatT) (K:KT) (i18_:Int) (h:H):(ZY S K) .normal (zgg i18_) h=zga S K i18_ h:=by
 unfold zga
 refine (zm _ _ _ _).trans ?_
 refine (ze zbR).trans ?_
 exact VO S _ _ i18_ h
theorem zoP:(sq Tryz.f128 11 2043) = .skip:=by kernel_rfl
def zyZ (S:SatT) (K:KT):Kont:=kSeq (cwp S tab zB [] (sq Tryz.f128 10 1023) (kFun tab (Tryz.f128).results.toList K)) (kFun tab (Tryz.f128).results.toList K)
def YC (S:SatT) (k:Kont) (p4_:Pt) (i11_:Int) (p14_:Pt) (i18_:Int) (b174_:Bool) (h:H):Prop:=
 k .normal (Xr i18_ true) h
theorem VN (S:SatT) (k:Kont) (m:List Nat) (p4_:Pt) (i11_:Int) (p14_:Pt) (i18_:Int) (b174_:Bool) (h:H):cwp S tab zB m (sq Tryz.f128 10 1022) k (Xs p4_ i11_ p14_ i18_ b174_) h=YC S k p4_ i11_ p14_ i18_ b174_ h:=by kernel_rfl
def zgb (S:SatT) (K:KT) (p4_:Pt) (i11_:Int) (p14_:Pt) (i18_:Int) (b174_:Bool) (h:H):Prop:=
 bif b174_ then
 YE S (ZY S K) p4_ i11_ p14_ i18_ b174_ h
 else
 YC S (zyZ S K) p4_ i11_ p14_ i18_ b174_ h
theorem zpl (S:SatT) (K:KT) (p4_:Pt) (i11_:Int) (p14_:Pt) (i18_:Int) (b174_:Bool) (h:H):(zij S K) .normal (Xs p4_ i11_ p14_ i18_ b174_) h=zgb S K p4_ i11_ p14_ i18_ b174_ h:=by
 unfold zgb
 refine (zm _ _ _ _).trans ?_
 refine (zD zoR (t:=b174_) rfl).trans (z8 ?_ ?_)
 ·exact VP S _ _ p4_ i11_ p14_ i18_ b174_ h
 ·refine (zI zoP).trans ?_
  refine (zm _ _ _ _).trans ?_
  refine (ze zbR).trans ?_
  exact VN S _ _ p4_ i11_ p14_ i18_ b174_ h
def zgc (S:SatT) (K:KT) (p4_:Pt) (i11_ i13_:Int) (p14_:Pt) (i18_:Int) (h:H):Prop:=
 YF S (zij S K) p4_ i11_ i13_ p14_ i18_ h
theorem zpm (S:SatT) (K:KT) (p4_:Pt) (i11_ i13_:Int) (p14_:Pt) (i18_:Int) (h:H):(VE S K) .normal (zgh p4_ i11_ i13_ p14_ i18_) h=zgc S K p4_ i11_ i13_ p14_ i18_ h:=by
 unfold zgc
 refine (zm _ _ _ _).trans ?_
 refine (ze zoT).trans ?_
 refine (ze zoS).trans ?_
 exact VQ S _ _ p4_ i11_ i13_ p14_ i18_ h
def zgd (S:SatT) (K:KT) (p4_ p6_:Pt) (i11_ i13_:Int) (p14_:Pt) (f17_:AVal) (b120_:Bool) (h:H):Prop:=
 bif b120_ then
 YG S (zik S K) p4_ p6_ i11_ i13_ p14_ f17_ b120_ h
 else
 qB S (VE S K) p4_ p6_ i11_ i13_ p14_ f17_ b120_ h
theorem zpo (S:SatT) (K:KT) (p4_ p6_:Pt) (i11_ i13_:Int) (p14_:Pt) (f17_:AVal) (b120_:Bool) (h:H):(wL S K) .normal (xe p4_ p6_ i11_ i13_ p14_ f17_ b120_) h=zgd S K p4_ p6_ i11_ i13_ p14_ f17_ b120_ h:=by
 unfold zgd
 refine (zm _ _ _ _).trans ?_
 refine (zD zoY (t:=b120_) rfl).trans (z8 ?_ ?_)
 ·refine (ze zoX).trans ?_
  exact VT S _ _ p4_ p6_ i11_ i13_ p14_ f17_ b120_ h
 ·refine (zI zoV).trans ?_
  refine (zLW _ _ _ _).trans ?_
  refine (zm _ _ _ _).trans ?_
  refine (ze zoU).trans ?_
  exact VS S _ _ p4_ p6_ i11_ i13_ p14_ f17_ b120_ h
def zge (S:SatT) (K:KT) (p4_ p6_:Pt) (i10_ i11_:Int) (i12_ i13_:Int) (p14_:Pt) (f16_ f17_:AVal) (b99_:Bool) (h:H):Prop:=
 bif b99_ then
 YH S (zil S K) p4_ p6_ i10_ i11_ i12_ i13_ p14_ f16_ f17_ b99_ h
 else
 qC S (wL S K) p4_ p6_ i10_ i11_ i12_ i13_ p14_ f16_ f17_ b99_ h
theorem zpq (S:SatT) (K:KT) (p4_ p6_:Pt) (i10_ i11_:Int) (i12_ i13_:Int) (p14_:Pt) (f16_ f17_:AVal) (b99_:Bool) (h:H):(ZZ S K) .normal (xJ p4_ p6_ i10_ i11_ i12_ i13_ p14_ f16_ f17_ b99_) h=zge S K p4_ p6_ i10_ i11_ i12_ i13_ p14_ f16_ f17_ b99_ h:=by
 unfold zge
 refine (zm _ _ _ _).trans ?_
 refine (zD zpc (t:=b99_) rfl).trans (z8 ?_ ?_)
 ·refine (ze zpb).trans ?_
  exact VV S _ _ p4_ p6_ i10_ i11_ i12_ i13_ p14_ f16_ f17_ b99_ h
 ·refine (ze zoZ).trans ?_
  exact VU S _ _ p4_ p6_ i10_ i11_ i12_ i13_ p14_ f16_ f17_ b99_ h
def zku (S:SatT) (K:KT) (p4_ p6_:Pt) (i10_ i11_:Int) (i12_ i13_:Int) (p14_:Pt) (f16_ f17_:AVal) (b78_:Bool) (h:H):Prop:=
 bif b78_ then
 VF S (zim S K) p4_ p6_ i10_ i11_ i12_ i13_ p14_ f16_ f17_ b78_ h
 else
 qD S (ZZ S K) p4_ p6_ i10_ i11_ i12_ i13_ p14_ f16_ f17_ b78_ h
theorem zzd (S:SatT) (K:KT) (p4_ p6_:Pt) (i10_ i11_:Int) (i12_ i13_:Int) (p14_:Pt) (f16_ f17_:AVal) (b78_:Bool) (h:H):(Xq S K) .normal (wY p4_ p6_ i10_ i11_ i12_ i13_ p14_ f16_ f17_ b78_) h=zku S K p4_ p6_ i10_ i11_ i12_ i13_ p14_ f16_ f17_ b78_ h:=by
 unfold zku
 refine (zm _ _ _ _).trans ?_
 refine (zD zpg (t:=b78_) rfl).trans (z8 ?_ ?_)
 ·refine (ze zpf).trans ?_
  exact zam S _ _ p4_ p6_ i10_ i11_ i12_ i13_ p14_ f16_ f17_ b78_ h
 ·refine (ze zpd).trans ?_
  exact VW S _ _ p4_ p6_ i10_ i11_ i12_ i13_ p14_ f16_ f17_ b78_ h
def zkv (S:SatT) (K:KT) (p4_ p6_:Pt) (i10_ i11_:Int) (i12_ i13_:Int) (p14_:Pt) (f16_ f17_:AVal) (b52_:Bool) (h:H):Prop:=
 bif b52_ then
 VG S (zmD S K) p4_ p6_ i10_ i11_ i12_ i13_ p14_ f16_ f17_ b52_ h
 else
 Z0 S (Xq S K) p4_ p6_ i10_ i11_ i12_ i13_ p14_ f16_ f17_ b52_ h
theorem zzf (S:SatT) (K:KT) (p4_ p6_:Pt) (i10_ i11_:Int) (i12_ i13_:Int) (p14_:Pt) (f16_ f17_:AVal) (b52_:Bool) (h:H):(zgf S K) .normal (YI p4_ p6_ i10_ i11_ i12_ i13_ p14_ f16_ f17_ b52_) h=zkv S K p4_ p6_ i10_ i11_ i12_ i13_ p14_ f16_ f17_ b52_ h:=by
 unfold zkv
 refine (zm _ _ _ _).trans ?_
 refine (zD zyN (t:=b52_) rfl).trans (z8 ?_ ?_)
 ·refine (ze zpj).trans ?_
  exact zao S _ _ p4_ p6_ i10_ i11_ i12_ i13_ p14_ f16_ f17_ b52_ h
 ·refine (ze zph).trans ?_
  exact zan S _ _ p4_ p6_ i10_ i11_ i12_ i13_ p14_ f16_ f17_ b52_ h
def zkw (S:SatT) (K:KT) (i3_:Int) (p4_ p6_:Pt) (i10_ i11_:Int) (i12_ i13_:Int) (p14_:Pt) (f16_ f17_:AVal) (h:H):Prop:=
 VH S (zgf S K) i3_ p4_ p6_ i10_ i11_ i12_ i13_ p14_ f16_ f17_ h
theorem zzg (S:SatT) (K:KT) (i3_:Int) (p4_ p6_:Pt) (i10_ i11_:Int) (i12_ i13_:Int) (p14_:Pt) (f16_ f17_:AVal) (h:H):(zmE S K) .normal (zkC i3_ p4_ p6_ i10_ i11_ i12_ i13_ p14_ f16_ f17_) h=zkw S K i3_ p4_ p6_ i10_ i11_ i12_ i13_ p14_ f16_ f17_ h:=by
 unfold zkw
 refine (zm _ _ _ _).trans ?_
 refine (ze zyQ).trans ?_
 refine (YZ zyP).trans ?_
 refine (ze zyO).trans ?_
 exact zap S _ _ i3_ p4_ p6_ i10_ i11_ i12_ i13_ p14_ f16_ f17_ h
def zkx (S:SatT) (K:KT) (i3_:Int) (p4_ p6_:Pt) (i10_ i11_:Int) (i12_ i13_:Int) (p14_ p15_:Pt) (f16_:AVal) (h:H):Prop:=
 VI S (zmE S K) i3_ p4_ p6_ i10_ i11_ i12_ i13_ p14_ p15_ f16_ h
theorem zzh (S:SatT) (K:KT) (i3_:Int) (p4_ p6_:Pt) (i10_ i11_:Int) (i12_ i13_:Int) (p14_ p15_:Pt) (f16_:AVal) (h:H):(zmF S K) .normal (zkD i3_ p4_ p6_ i10_ i11_ i12_ i13_ p14_ p15_ f16_) h=zkx S K i3_ p4_ p6_ i10_ i11_ i12_ i13_ p14_ p15_ f16_ h:=by
 unfold zkx
 refine (zm _ _ _ _).trans ?_
 refine (ze zyR).trans ?_
 exact zaq S _ _ i3_ p4_ p6_ i10_ i11_ i12_ i13_ p14_ p15_ f16_ h
def zky (S:SatT) (K:KT) (i3_:Int) (p4_ p6_:Pt) (i10_ i11_:Int) (i12_ i13_:Int) (p14_ p15_:Pt) (h:H):Prop:=
 VJ S (zmF S K) i3_ p4_ p6_ i10_ i11_ i12_ i13_ p14_ p15_ h
theorem zzi (S:SatT) (K:KT) (i3_:Int) (p4_ p6_:Pt) (i10_ i11_:Int) (i12_ i13_:Int) (p14_ p15_:Pt) (h:H):(zmG S K) .normal (zkE i3_ p4_ p6_ i10_ i11_ i12_ i13_ p14_ p15_) h=zky S K i3_ p4_ p6_ i10_ i11_ i12_ i13_ p14_ p15_ h:=by
 unfold zky
 refine (zm _ _ _ _).trans ?_
 refine (ze zyS).trans ?_
 exact zar S _ _ i3_ p4_ p6_ i10_ i11_ i12_ i13_ p14_ p15_ h
def zkz (S:SatT) (K:KT) (i3_:Int) (p4_ p6_:Pt) (i10_ i11_:Int) (i12_ i13_:Int) (h:H):Prop:=
 VK S (zmG S K) i3_ p4_ p6_ i10_ i11_ i12_ i13_ h
theorem zzj (S:SatT) (K:KT) (i3_:Int) (p4_ p6_:Pt) (i10_ i11_:Int) (i12_ i13_:Int) (h:H):(zmH S K) .normal (zkF i3_ p4_ p6_ i10_ i11_ i12_ i13_) h=zkz S K i3_ p4_ p6_ i10_ i11_ i12_ i13_ h:=by
 unfold zkz
 refine (zm _ _ _ _).trans ?_
 refine (ze zyT).trans ?_
 exact zas S _ _ i3_ p4_ p6_ i10_ i11_ i12_ i13_ h
def zkA (S:SatT) (K:KT) (i1_ i3_:Int) (p4_ p6_:Pt) (i10_ i11_:Int) (h:H):Prop:=
 VL S (zmH S K) i1_ i3_ p4_ p6_ i10_ i11_ h
theorem zzk (S:SatT) (K:KT) (i1_ i3_:Int) (p4_ p6_:Pt) (i10_ i11_:Int) (h:H):(zmI S K) .normal (zkG i1_ i3_ p4_ p6_ i10_ i11_) h=zkA S K i1_ i3_ p4_ p6_ i10_ i11_ h:=by
 unfold zkA
 refine (zm _ _ _ _).trans ?_
 refine (ze zyU).trans ?_
 exact zat S _ _ i1_ i3_ p4_ p6_ i10_ i11_ h
def zkB (S:SatT) (K:KT) (i1_ i3_:Int) (p4_ p6_:Pt) (h:H):Prop:=
 VM S (zmI S K) i1_ i3_ p4_ p6_ h
theorem zzl (S:SatT) (K:KT) (i1_ i3_:Int) (p4_ p6_:Pt) (h:H):(zmJ S K) .normal (zkH i1_ i3_ p4_ p6_) h=zkB S K i1_ i3_ p4_ p6_ h:=by
 unfold zkB
 refine (zm _ _ _ _).trans ?_
 refine (ze zyV).trans ?_
 exact zau S _ _ i1_ i3_ p4_ p6_ h
def ZX (S:SatT) (K:KT) (x0:Pt) (x1 x2 x3:Int) (h:H):Prop:=
 VX S (zmJ S K) x0 x1 x2 x3 h
theorem zal (S:SatT) (K:KT) (x0:Pt) (x1 x2 x3:Int) (h:H):cwp S tab zB [] (za Tryz.f128) (kFun tab Tryz.f128.results.toList K) (fr0 Tryz.f128 [.ptr x0,.int .i64 x1,.int .i64 x2,.int .i64 x3]) h=ZX S K x0 x1 x2 x3 h:=by
 unfold ZX
 refine (ze zyW).trans ?_
 exact zav S _ _ x0 x1 x2 x3 h
theorem zzm (x0:Pt) (x1:Int) (x2:Int) (x3:Int) (h:H) (K:KT) (hm:ZX (Sat Tryz.prog) (fun v h'=>K v h') x0 x1 x2 x3 h):callV (Sat Tryz.prog) Wg [.ptr x0,.int .i64 x1,.int .i64 x2,.int .i64 x3] h K:=by
 have:=Sat.ex tok mixed zB Tryz.func128 (c:=za Tryz.f128) (by kernel_rfl) (zd Tryz.func128 (c:=za Tryz.f128) (by kernel_rfl) (by decide)) ((zal _ _ x0 x1 x2 x3 h).mpr hm)
 exact this
end Go.Proofs.YtlcgclmobfdbcaaGreat.Cl
