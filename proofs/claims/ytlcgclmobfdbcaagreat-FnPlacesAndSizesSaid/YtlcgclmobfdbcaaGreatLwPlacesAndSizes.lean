/- The law FnPlacesAndSizes holds of all codes. The statement itself stands in another text. -/
import Derived.Test.YtlcgclmobfdbcaaGreatFb0
import Derived.Test.YtlcgclmobfdbcaaGreatFb4
set_option linter.unusedVariables false
set_option linter.unusedSimpArgs false
namespace Go.Proofs.YtlcgclmobfdbcaaGreat.Cl
open Go
abbrev KB:AVal→H→Prop:=fun v _=>∃b,v=AVal.bool b∧b=true
theorem zlo {c:Int} {ts us:List Tile} (hs:setOK c ts) (hs':setOK c us) (h:∀n:Nat,0<n→n≤5→(yM c us n n).cntZ=(yM c ts n n).cntZ) (n:Int):sqF c us n=sqF c ts n:=by
 unfold sqF
 by_cases hn:1≤n∧n≤4
 ·rw [zW hs hn,zW hs' hn,if_pos rfl,if_pos rfl,h _ (by omega) (by omega)]
 ·rw [yG hs hn,yG hs' hn]
  rfl
theorem zBd {c:Int} {ts:List Tile} {n:Int} (h:(sqF c ts n).2=0):setOK c ts:=by
 unfold sqF at h
 split at h
 ·next q=>exact (zM q).1
 ·next q=>exact absurd h q
section
variable {h g:H} {s0:Sl} {q0:List Int}
theorem zLO {o:Nat} {u:Sl} {c:Int} {ts:List Tile} (ob:Obj g o (SetC c u)) (ru:Rd g u 4 (tcs ts)) (hl:ts.length≤17):zmc SP KB ⟨some o,2,0⟩ g:=by
 unfold zmc zeR
 refine ob.ldA rfl ?_
 refine (vJ ru (by omega)).to ?_
 rintro _ g1 ⟨n,rfl,hn,hn0,y1⟩
 refine ⟨_,rfl,_,rfl,_,rfl,_,rfl,?_⟩
 dsimp only
 rw [zDr]
 unfold zuA zeP
 refine (ob.ext y1).ldA rfl ?_
 refine (vz (ru.ext y1) (by omega)).to ?_
 rintro _ g2 ⟨m,rfl,hm,hm0,y2⟩
 have y12:=y1.trans y2
 refine ⟨_,rfl,_,rfl,_,rfl,_,rfl,?_⟩
 dsimp only
 rw [zDq]
 unfold zuz zeN
 refine (ob.ext y12).ldA rfl ?_
 refine (Y9 (ru.ext y12) (by omega)).to ?_
 rintro _ g3 ⟨s,rfl,ns,y3⟩
 refine ⟨_,rfl,_,rfl,_,rfl,_,rfl,?_⟩
 dsimp only
 rw [zDp]
 unfold zuy zeL
 refine (ob.ext (y12.trans y3)).ldA rfl ?_
 refine (Y3 (ru.ext (y12.trans y3)) (by omega)).to ?_
 rintro _ g4 ⟨s',rfl,ns',y4⟩
 refine ⟨_,rfl,_,rfl,_,rfl,_,rfl,?_⟩
 dsimp only
 rw [zDo]
 unfold zux zeJ
 have enm:n=m:=by
  by_cases hs:setOK c ts
  ·exact (hn hs).eq (hm hs)
  ·rw [hn0 hs,hm0 hs]
 subst enm
 have r4:=ns.rd.ext y4
 have sz:(zv c ts).length≤3∧∀l∈zv c ts,l.length=3:=by
  unfold zv
  split
  ·unfold sizT
   refine ⟨by simp,fun l hl=>?_⟩
   obtain ⟨i,_,rfl⟩:=List.mem_map.1 hl
   unfold sizR;simp
  ·exact ⟨by simp,fun l hl=>by cases hl⟩
 refine zF (fun hq=>absurd rfl hq) (fun _=>?_)
 refine zF (fun hq=>absurd rfl hq) (fun _=>?_)
 refine zF (fun hq=>absurd rfl hq) (fun _=>?_)
 refine (zqA r4 ns'.rd (by omega) (fun l hl=>by have:=sz.2 l hl;omega)).to ?_
 rintro _ g5 ⟨rfl,rfl⟩
 rw [beq_self_eq_true,zDn]
 unfold zuw
 refine yy (fun hf=>by cases hf) (fun _=>?_)
 unfold zeG
 rw [zDm]
 unfold zuv
 refine zp (fun hc=>?_) (fun _=>?_)
 ·unfold zeE
  rw [zDl]
  unfold zuu
  have hs:=(zM hc).1
  refine zDf _ _ _ _ (fun i g'=>∃z:Nat,i=z∧1≤z∧z≤4∧g5=g') (fun i _=>(4-i).toNat) ?_ _ ⟨1,rfl,by omega,by omega,rfl⟩
  rintro X0 _ _ ⟨z,rfl,hz1,hz,rfl⟩ hX
  unfold zLi
  refine zc (fun hi=>?_) (fun hi=>⟨_,rfl,rfl⟩)
  obtain ⟨a1,a2,a3⟩:=zLF (c:=c) (ts:=ts) hc (k:=z) (by omega) (by omega)
  have et:((z:Int)-1).toNat=z-1:=by omega
  rw [zf (n:=(z:Int)-1) (by omega) (by omega)]
  refine r4.ldG (by omega) (by omega) fun v rv lv=>?_
  rw [et] at rv
  refine rv.ldG (by omega) (by omega) ?_
  rw [et]
  show bif ((G (zv c ts) (z-1) (z-1)==1) != _) then _ else _
  have hd:=zIY hs (hn hs) (k:=z) (by omega) (by omega)
  have e:((G (zv c ts) (z-1) (z-1)==1) != decide ((n:Int)≥(z:Int)))=false:=by
   rw [a3]
   have:(sizC c ts z z==1)=decide ((n:Int)≥(z:Int)):=by
    rw [Bool.eq_iff_iff,beq_iff_eq,decide_eq_true_eq,hd]
    omega
   rw [this];simp
  rw [e,zf (n:=(z:Int)+1) (by omega) (by omega)]
  exact hX _ _ ⟨z+1,by push_cast;rfl,by omega,by omega,rfl⟩ (by omega)
 ·unfold zeC
  rw [zDk]
  unfold zut
  exact ⟨_,rfl,rfl⟩
theorem zEK (C:CodeB g s0 q0) {b:Bool}:ZS SP (zjz SP KB) s0 b g:=by
 unfold ZS
 refine (qN C).to ?_
 rintro _ g1 ⟨u,c,ts,rfl,ru,hl,fu,y1⟩
 refine vG fun g2 p2 y2 m2=>?_
 rw [zDs]
 exact zLO p2 (ru.ext y2) hl
theorem zLP (C:CodeB g s0 q0):zmd SP KB s0 false g:=by
 unfold zmd
 refine yy (fun hf=>by cases hf) (fun _=>?_)
 unfold zfq
 refine (Z9 C).to ?_
 rintro _ g1 ⟨u,c,ts,n,rfl,ru,hl,hn,y1⟩
 refine ⟨_,rfl,_,rfl,_,rfl,_,rfl,?_⟩
 refine vG fun g2 p2 y2 m2=>?_
 rw [zDC]
 unfold zuK zfo
 have ru2:=ru.ext y2
 refine p2.ldA rfl ?_
 refine (yS ru2 (by omega) n).to ?_
 rintro _ g3 ⟨rfl,y3⟩
 refine ⟨_,rfl,_,rfl,_,rfl,_,rfl,?_⟩
 dsimp only
 rw [zDB]
 unfold zuJ zfm
 refine (p2.ext y3).ldA rfl ?_
 refine (q8 (ru2.ext y3) (by omega) n).to ?_
 rintro _ g4 ⟨rfl,y4⟩
 have y34:=y3.trans y4
 refine ⟨_,rfl,_,rfl,_,rfl,_,rfl,?_⟩
 dsimp only
 rw [zDA]
 unfold zuI zfk
 refine zF (fun hq=>absurd rfl hq) (fun _=>?_)
 rw [bne_self_eq_false,zDz]
 unfold zuH
 refine yy (fun hf=>by cases hf) (fun _=>?_)
 unfold zfh
 rw [zDy]
 unfold zuG
 have C4:=C.ext (y1.trans (y2.trans y34))
 refine zp (fun hc=>?_) (fun _=>?_)
 ·have hs:=zBd hc
  have hs1:setOK c (dsT (ts.map trd)):=hs.img zgw
  have hs2:setOK c (dsT (ts.map fld)):=hs.img zho
  have h161:=hs1.2.1
  have h162:=hs2.2.1
  have e1:=zlo hs hs1 (fun k a b=>zqq hs a b) n
  have e2:=zlo hs hs2 (fun k a b=>zna hs a b) n
  unfold zff
  refine (p2.ext y34).ldA rfl ?_
  refine (Y8 (c:=c) (ru2.ext y34) (by omega)).to ?_
  rintro _ g5 ⟨v,rfl,pv,fv,y5⟩
  rw [zmQ hs] at pv ⊢
  have pv:Pre g5 v 4 (tcs (dsT (ts.map trd))):=pv
  refine ⟨_,rfl,_,rfl,_,rfl,_,rfl,?_⟩
  refine vG fun g6 p6 y6 m6=>?_
  rw [zDx]
  unfold zuF zfd
  have y46:=y5.trans y6
  refine (p2.ext (y34.trans y46)).ldA rfl ?_
  refine (Yt (c:=c) (ru2.ext (y34.trans y46)) (by omega)).to ?_
  rintro _ g7 ⟨w,rfl,pw,fw,y7⟩
  rw [zmQ hs] at pw ⊢
  have pw:Pre g7 w 4 (tcs (dsT (ts.map fld))):=pw
  refine ⟨_,rfl,_,rfl,_,rfl,_,rfl,?_⟩
  refine vG fun g8 p8 y8 m8=>?_
  rw [zDw]
  unfold zuE zfb
  have y68:=y7.trans y8
  refine (p6.ext y68).ldA rfl ?_
  refine (yS (c:=c) (pv.ext (y6.trans y68)).rd (by omega) n).to ?_
  rintro _ g9 ⟨rfl,y9⟩
  refine ⟨_,rfl,_,rfl,_,rfl,_,rfl,?_⟩
  dsimp only
  rw [zDv]
  unfold zuD zeZ
  refine (p8.ext y9).ldA rfl ?_
  refine (yS (c:=c) (pw.ext (y8.trans y9)).rd (by omega) n).to ?_
  rintro _ g10 ⟨rfl,y10⟩
  refine ⟨_,rfl,_,rfl,_,rfl,_,rfl,?_⟩
  dsimp only
  rw [zDu]
  unfold zuC zeX
  rw [e1,e2]
  refine zF (fun hq=>absurd rfl hq) (fun _=>?_)
  refine zF (fun hq=>absurd rfl hq) (fun _=>?_)
  refine zF (fun hq=>absurd hc hq) (fun _=>?_)
  refine zF (fun hq=>absurd hc hq) (fun _=>?_)
  refine zF (fun hq=>absurd rfl hq) (fun _=>?_)
  rw [bne_self_eq_false,zDt]
  unfold zuB
  refine yy (fun hf=>by cases hf) (fun _=>?_)
  exact zEK (C4.ext (y46.trans (y68.trans (y9.trans y10))))
 ·have:=zEK C4 (b:=false)
  unfold ZS at this
  unfold zeT
  exact this
theorem zEL (C:CodeB g s0 q0) {b:Bool}:ZT SP (zjA SP KB) s0 b g:=by
 unfold ZT
 refine (zgt C).to ?_
 rintro _ g1 ⟨u,c,ts,w,bw,P,B,y,x,rfl,ru,hl,rp,rb,sp,sb,by_,bx,y1⟩
 refine ⟨_,rfl,_,rfl,_,rfl,_,rfl,_,rfl,_,rfl,_,rfl,_,rfl,_,rfl,_,rfl,?_⟩
 refine vG fun g2 p2 y2 m2=>?_
 rw [zDG]
 unfold zuN zfx
 have hpl:∀l∈P,l.length≤1048576:=fun l hl=>by have:=sp.2 l hl;omega
 have hbl:∀l∈B,l.length≤1048576:=fun l hl=>by have:=sb.2 l hl;omega
 have sp1:=sp.1
 have sb1:=sb.1
 have ru2:=ru.ext y2
 have rp2:=rp.ext y2
 have rb2:=rb.ext y2
 refine p2.ldA rfl ?_
 refine (qR ru2 rp2 rb2 (by omega) (by omega) hpl (by omega) hbl by_ bx).to ?_
 rintro _ g3 ⟨s,rfl,os,_,y3⟩
 refine ⟨_,rfl,_,rfl,_,rfl,_,rfl,?_⟩
 dsimp only
 rw [zDF]
 unfold zuM zfv
 refine (p2.ext y3).ldA rfl ?_
 refine (Qx (ru2.ext y3) (rp2.ext y3) (rb2.ext y3) (by omega) (by omega) hpl (by omega) hbl by_ bx).to ?_
 rintro _ g4 ⟨s',rfl,os',_,y4⟩
 refine ⟨_,rfl,_,rfl,_,rfl,_,rfl,?_⟩
 dsimp only
 rw [zDE]
 unfold zuL zft
 have sm:=zaS (c:=c) (ts:=ts) (plan:=P) (borders:=B) (by omega) (by omega) hpl (by omega) hbl by_ bx
 refine zF (fun hq=>absurd rfl hq) (fun _=>?_)
 refine (zbm (os.rd.ext y4) os'.rd (by omega)).to ?_
 rintro _ _ ⟨rfl,rfl⟩
 rw [beq_self_eq_true,zDD]
 exact zLP (C.ext (y1.trans (y2.trans (y3.trans y4))))
theorem zNu (C:CodeB g s0 q0) {o:Nat} {u w bw s6:Sl} {c:Int} {ts:List Tile} {P B:List (List Int)} (ob:Obj g o (SetC c u)) (ru:Rd g u 4 (tcs ts)) (hl:ts.length≤17) (rp:RdSS g w P) (rb:RdSS g bw B) (sp:SmL P) (sb:SmL B) (r6:RdSS g s6 (zt c ts P B)):
  zDg SP KB s0 ⟨some o,2,0⟩ w bw s6 (zn c ts P B==0) g:=by
 have hpl:∀l∈P,l.length≤1048576:=fun l hl=>by have:=sp.2 l hl;omega
 have hbl:∀l∈B,l.length≤1048576:=fun l hl=>by have:=sb.2 l hl;omega
 have sp1:=sp.1
 have sb1:=sb.1
 unfold zDg
 refine zp (fun h0=>?_) (fun _=>?_)
 ·obtain ⟨hs,hp,hcnt,eS,eC⟩:=zBi h0
  obtain ⟨d1,d2,d3,d4,d5,d6,d7,d8,d9⟩:=dims hs hp
  have ok:=wF hs hp
  unfold zjB
  refine ob.ldA rfl ?_
  refine (qR ru rp rb (by omega) (by omega) hpl (by omega) hbl (y:=0) (x:=0) (by unfold vL;omega) (by unfold vL;omega)).to ?_
  rintro _ g1 ⟨s,rfl,os,_,y1⟩
  refine ⟨_,rfl,_,rfl,_,rfl,_,rfl,?_⟩
  dsimp only
  rw [zKY]
  unfold zKF zfJ
  refine (ob.ext y1).ldA rfl ?_
  refine (Zh (ru.ext y1) (rp.ext y1) (rb.ext y1) (by omega) (by omega) hpl (by omega) hbl hs hp hcnt).to ?_
  rintro _ g2 ⟨⟨f,rows,a,rfl,rf,lf,lf0,fa,ga⟩,y2⟩
  have y12:=y1.trans y2
  refine ⟨_,rfl,_,rfl,_,rfl,_,rfl,?_⟩
  dsimp only
  rw [zDK]
  unfold zuR zfH
  have sS:(samP c ts P B).length=P.length:=xM _ _ _
  have sR:∀l∈samP c ts P B,l.length≤1048576:=fun l hl=>by
   unfold samP wr at hl
   obtain ⟨i,_,rfl⟩:=List.mem_map.1 hl
   rw [List.length_map,List.length_range];omega
  rw [eS] at r6
  refine (ob.ext y12).ldA rfl ?_
  refine (xG (ru.ext y12) (r6.ext y12) (rb.ext y12) (by omega) (by omega) sR (by omega) hbl).to ?_
  rintro _ g3 ⟨rfl,y3⟩
  refine ⟨_,rfl,_,rfl,_,rfl,_,rfl,?_⟩
  dsimp only
  rw [zDJ]
  unfold zuQ zfF
  have y13:=y12.trans y3
  refine (ob.ext y13).ldA rfl ?_
  refine (xG (ru.ext y13) (rp.ext y13) (rb.ext y13) (by omega) (by omega) hpl (by omega) hbl).to ?_
  rintro _ g4 ⟨rfl,y4⟩
  refine ⟨_,rfl,_,rfl,_,rfl,_,rfl,?_⟩
  dsimp only
  rw [zDI]
  unfold zuP zfD
  have y14:=y13.trans y4
  have hin:Yk P 0 0:=⟨⟨by omega,by omega⟩,by omega,by omega⟩
  have e1:ye c ts P B 0 0=0:=zW hs ⟨hp,hin⟩
  have e0:zR c ts P B 0 0=atL (dpOf c ts P B) 0 ts.length:=by
   unfold zR
   rw [if_pos e1]
   simp
  obtain ⟨f1,f2⟩:=zMa ((Dp.alive_zero ok).2 (Dp.cntZ_pos.1 hcnt)) fa
  replace f1:1≤(atL (dpOf c ts P B) 0 ts.length).length:=f1
  replace f2:(atL (dpOf c ts P B) 0 ts.length).getD 0 0=a:=f2
  rw [e0] at os
  have os4:=os.rd.ext (y2.trans (y3.trans y4))
  have lo:=os4.ilen
  rw [eC]
  refine zF (fun hq=>absurd e1 hq) (fun _=>?_)
  refine zF (fun hq=>absurd rfl hq) (fun _=>?_)
  refine zc (fun hq=>by omega) (fun _=>?_)
  refine os4.ldG (by omega) (by omega) ?_
  rw [show (0:Int).toNat=0 from rfl,f2]
  refine (rf.ext (y3.trans y4)).ldG (by omega) (by omega) fun v rv lv=>?_
  rw [show (0:Int).toNat=0 from rfl] at rv
  refine rv.ldG (by omega) (by omega) ?_
  rw [show (rw_ rows 0).getD (0:Int).toNat 0=a from ga]
  refine zF (fun hq=>absurd rfl hq) (fun _=>?_)
  refine (r6.ext y14).ldG (by omega) (by omega) fun v6 rv6 lv6=>?_
  rw [show (0:Int).toNat=0 from rfl] at rv6
  have hr0:=Xi (c:=c) (ts:=ts) (plan:=P) (borders:=B) (y:=0) (by omega)
  refine rv6.ldG (by omega) (by rw [hr0];simp;omega) ?_
  have hG:(rw_ (samP c ts P B) 0).getD (0:Int).toNat 0=sameAt (dpOf c ts P B) 0:=by
   have:=ziX (c:=c) (ts:=ts) (plan:=P) (borders:=B) (y:=0) (x:=0) (by omega) (by omega)
   rw [Nat.zero_mul] at this
   exact this
  rw [hG]
  have e7:(((s.len:Int)==1) != decide (sameAt (dpOf c ts P B) 0≥0))=false:=by
   have h1:(atL (dpOf c ts P B) 0 ts.length).length=1↔0≤sameAt (dpOf c ts P B) 0:=zBh
   have:((s.len:Int)==1)=decide (sameAt (dpOf c ts P B) 0≥0):=by
    rw [Bool.eq_iff_iff,beq_iff_eq,decide_eq_true_eq,lo,ge_iff_le,←h1]
    omega
   rw [this];simp
  rw [e7]
  show bif ((zgn c ts P B).2 != (zgn c ts P B).2) then _ else _
  refine zF (fun hq=>absurd rfl hq) (fun _=>?_)
  rw [bne_self_eq_false,zDH]
  unfold zuO
  refine yy (fun hf=>by cases hf) (fun _=>?_)
  exact zEL (C.ext y14)
 ·have:=zEL C (b:=false)
  unfold ZT at this
  unfold zfz
  exact this
end
theorem law_PlacesAndSizes {h:H} {s0:Sl} {q0:List Int} (r0:Rd h s0 1 (bc q0)) (hq0:∀b∈q0,0≤b∧b<256):callB SP i_f2 [.sl s0] h fun b _=>b=true:=by
 have hsl:=r0.blen
 apply zLh
 unfold zex zjJ
 rw [zLg]
 unfold zKL zjI
 refine (zND s0).to ?_
 rintro _ _ ⟨rfl,rfl⟩
 rw [zLf]
 unfold zKK
 refine zc (fun _=>?_) (fun hbig=>?_)
 ·unfold zjH
  rw [zLe]
  exact ⟨_,rfl,rfl⟩
 have C0:CodeB h s0 q0:=⟨r0,by omega,hq0⟩
 unfold zjG
 refine (Xc C0).to ?_
 rintro _ h2 ⟨u,c,ts,w,bw,P,B,rfl,ru,hl,rp,rb,sp,sb,x2⟩
 refine ⟨_,rfl,_,rfl,_,rfl,_,rfl,_,rfl,_,rfl,?_⟩
 refine vG fun h3 o3 x3 n3=>?_
 rw [zLd]
 unfold zKJ zjF
 have hpl:∀l∈P,l.length≤1048576:=fun l hl=>by have:=sp.2 l hl;omega
 have hbl:∀l∈B,l.length≤1048576:=fun l hl=>by have:=sb.2 l hl;omega
 have sp1:=sp.1
 have sb1:=sb.1
 have ru3:=ru.ext x3
 have rp3:=rp.ext x3
 have rb3:=rb.ext x3
 refine o3.ldA rfl ?_
 refine (Ys ru3 rp3 rb3 (by omega) (by omega) hpl (by omega) hbl).to ?_
 rintro _ h4 ⟨s,rfl,ns,x4⟩
 refine ⟨_,rfl,_,rfl,_,rfl,_,rfl,?_⟩
 dsimp only
 rw [zLc]
 unfold zKI zjE
 refine (o3.ext x4).ldA rfl ?_
 refine (Yc (ru3.ext x4) (rp3.ext x4) (rb3.ext x4) (by omega) (by omega) hpl (by omega) hbl).to ?_
 rintro _ h5 ⟨s',rfl,ns',x5⟩
 refine ⟨_,rfl,_,rfl,_,rfl,_,rfl,?_⟩
 dsimp only
 rw [zLb]
 unfold zKH zjD
 have X5:=x4.trans x5
 have sm:=YP (c:=c) (ts:=ts) (plan:=P) (borders:=B) (by omega) (by omega) hpl (by omega) hbl
 have r6:=ns.rd.ext x5
 refine zF (fun hq=>absurd rfl hq) (fun _=>?_)
 refine (zqA r6 ns'.rd (by omega) (fun l hl=>by have:=zmW hl;omega)).to ?_
 rintro _ _ ⟨rfl,rfl⟩
 rw [beq_self_eq_true,zLa]
 unfold zKG
 refine yy (fun hf=>by cases hf) (fun _=>?_)
 unfold zjC
 rw [zKZ]
 exact zNu (C0.ext (x2.trans (x3.trans X5))) (o3.ext X5) (ru3.ext X5) hl (rp3.ext X5) (rb3.ext X5) sp sb r6
set_option maxRecDepth 100000 in
theorem law_PlacesAndSizes_in (h:H) (xs:List AVal) (hl:xs.length=Tryz.f4.params.toList.length) (ha:∀(i:Nat) t a,Tryz.f4.params.toList[i]? = some t→xs[i]? = some a→zLy Tryz.prog h t a):callB (Sat Tryz.prog) 4 xs h fun b _=>b=true:=by
 rw [show Tryz.f4.params.toList.length=1 by kernel_rfl] at hl
 match xs,hl with
 | [e0],_=>
  obtain ⟨k0,pd0,dd0,rfl⟩:=ha 0 22 e0 (by kernel_rfl) rfl
  obtain ⟨s0,q0,rfl,r0,hq0⟩:=zAI (u:=5) (by kernel_rfl) (by kernel_rfl) (by kernel_rfl) dd0
  rw [show argV Tryz.prog 22 [.sl s0] = .sl s0 by kernel_rfl]
  exact law_PlacesAndSizes r0 hq0
end Go.Proofs.YtlcgclmobfdbcaaGreat.Cl
