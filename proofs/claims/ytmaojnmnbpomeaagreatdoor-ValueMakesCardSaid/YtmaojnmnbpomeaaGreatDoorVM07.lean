/- A part. -/
import Derived.Test.YtmaojnmnbpomeaaGreatDoorVM06
set_option maxRecDepth 100000
set_option maxHeartbeats 64000000
namespace Go.Proofs.YtmaojnmnbpomeaaGreatDoor
open Go.RowKit Go.Sort
def zaH(w:World)(o:Option (List Wd))(e:Ending)(w':World):Prop :=
 Below w.heap.size w w'/\match o with
 |none=>∃ v,e=.returned (.tuple #[v,.bool false])
 |some x=>∃ A c,e=.returned (.tuple #[.slice A x.length c,.bool true])/\Je eW w' w'.heap.size (.slice A x.length c) x
theorem qsE(A:Option Addr)(c:Nat)(ss:Zw)(s:Int)(w:World)(h:Je (Th eW) w w.heap.size (.slice A ss.length c) ss)(h1:-9223372036854775808<=s)(h2:s<=9223372036854775807) :
  Calls Tryz.prog 219 #[.slice A ss.length c,.int .i64 s] w (zaH w (Ru ss s)):=by
 have HH:=Lh h;have hn:=h.n_le;obtain⟨n,hl⟩:=Xe ss.length;rw[<-hl] at HH hn |-;have HL:=Lh hl;clear h hl;by_cases hs:s<0
 ·have hd:decide (s<0)=true:=by simpa using hs
  have Zm:(Value.int .u8 ((-1 - s)%256))=ri (tb s):=by
   unfold ri tb;rw[UInt8.toNat_ofNat'];congr 1;omega
  have hcv:(convert 114 9 (.slice (some ⟨w.heap.size,0,none⟩) 1 1)).run Tryz.prog (w.alloc (.cells #[.int .u8 ((-1 - s)%256)] 5))=.ok (wv [tb s]) (w.alloc (.cells #[.int .u8 ((-1 - s)%256)] 5)):=by
   rw[Zm];exact zr (l:=[tb s]) (B:=w.heap.size+1) (Rd.row (Xn w _) (by omega)) Tryz.underlying114 Tryz.underlying5 Tryz.underlying9 1 rfl 1
  clear Zm;by_cases hm:-256<=s
  ·have hmd:decide (-256<=s)=true:=by simpa using hm
   rw[show (-1 - s)%256=-1 - s by omega] at hcv;have HO:=Lh (show Ru ss s=some [[tb s]] by unfold Ru;rw[if_pos hs,if_pos hm]);go_enter Tryz.func219,Tryz.ntmps219;go_wp2_with fail;refine (Jd s w).mono ?_;rintro e w1 ⟨rfl,rfl⟩;go_wp2_with fail
   go_ret2
   refine⟨by go_grown,?_⟩;rw[HO.o];refine⟨_,_,rfl,Io (xs:=[[tb s]]) (fun x hx=>by rw[Qi] at hx;subst hx;unfold maxLen;simp) (Rd.row (Fu w _ _) (by rw[Xs,Xs];omega)) (Ya _) (by unfold maxLen;omega)⟩
  ·have hmd:decide (-256<=s)=false:=by simpa using hm
   have HO:=Lh (show Ru ss s=none by unfold Ru;rw[if_pos hs,if_neg hm]);go_enter Tryz.func219,Tryz.ntmps219;go_wp2_with fail;refine (Jd s w).mono ?_;rintro e w1 ⟨rfl,rfl⟩;go_wp2_with fail
   go_ret2
   refine⟨by go_grown,?_⟩;rw[HO.o];exact⟨_,rfl⟩
 ·have hd:decide (s<0)=false:=by simpa using hs
  obtain⟨k,rfl⟩:∃ k:Nat,s=(k:Int):=⟨s.toNat,by omega⟩;by_cases hk:k<n
  ·have oP:k<ss.length:=by rw[<-HL.o];exact hk
   have HO:=Lh (show Ru ss (k:Int)=some ss[k] by unfold Ru;rw[if_neg (by omega)];exact Qa oP);obtain⟨b,off,A2,c2,rfl,_,pM,Zm,Mi,h5,h6⟩:=HH.o.row1 oP;have HSL:=Lh Mi;obtain⟨x,hx⟩:=Xe (ss[k]);rw[<-hx] at Zm HSL HO;clear Mi h5 hx oP;go_enter Tryz.func219,Tryz.ntmps219;go_wp2_with fail;refine (Jd _ w).mono ?_;rintro e w1 ⟨rfl,rfl⟩;rw[hd];go_wp2_with fail
   go_ret2
   refine⟨Xr _ _,?_⟩;rw[HO.o];exact⟨_,_,rfl,HSL.o⟩
  ·have HO:=Lh (show Ru ss (k:Int)=none by unfold Ru;rw[if_neg (by omega)];exact Xf (by rw[<-HL.o];omega));go_enter Tryz.func219,Tryz.ntmps219;go_wp2_with fail;refine (Jd _ w).mono ?_;rintro e w1 ⟨rfl,rfl⟩;rw[hd];go_wp2_with fail
   go_ret2
   refine⟨Xr _ _,?_⟩;rw[HO.o];exact⟨_,rfl⟩
def qbF(ss:Zw):Prop:=∀(i:Nat)(x:List Wd),ss[i]? = some x->bz x/\x.length<=1099511627776
theorem mo{sets:Zw}{k:Int}{acc:List Wd}{s:Int}{l:List Int}:Nd sets k acc (s::l)=(Ru sets s).bind fun x=>(Ea k acc x).bind fun o=>Nd sets k o l:=rfl
theorem qfZ{α:Type}(l:List α){i:Nat}(h:i<l.length):l.drop i=l[i]::l.drop (i+1):=Ql h
theorem zy{k:Nat}(hk:k<=4){a b o:List Wd}(h:Ea k a b=some o):bz o/\o.length<=4096:=by
 refine⟨fun z hz=>?_,?_⟩
 ·obtain⟨x,_,y,_,rfl⟩:=(Fs h).1 hz;rw[Qq];simp;omega
 ·unfold Ea at h;split at h
  ·injection h with h;subst h;assumption
  ·cases h
theorem uz{ss:Zw}(h:qbF ss){s:Int}{x:List Wd}(hx:Ru ss s=some x):bz x/\x.length<=1099511627776:=by
 unfold Ru at hx;split at hx
 ·split at hx
  ·injection hx with hx;subst hx;exact⟨fun z hz=>by rw[Qi] at hz;subst hz;simp,by simp⟩
  ·cases hx
 ·exact h _ _ hx
def zhB(w:World)(o:Option (List Wd))(e:Ending)(w':World):Prop :=
 Below w.heap.size w w'/\match o with
 |none=>e=.returned (.tuple #[.slice none 0 0,.bool false])
 |some x=>∃ A c,e=.returned (.tuple #[.slice A x.length c,.bool true])/\Je eW w' w'.heap.size (.slice A x.length c) x
theorem oS(A B:Option Addr)(c d k:Nat)(ss:Zw)(syms:List Int)(w:World)(Iu:1<=k)(iH:k<=4)(h:Je (Th eW) w w.heap.size (.slice A ss.length c) ss)(hs:Je Wo w w.heap.size (.slice B syms.length d) syms)(hz:qbF ss) :
  Calls Tryz.prog 146 #[.slice A ss.length c,.int .i64 k,.slice B syms.length d] w (zhB w (lZ ss k syms)):=by
 have HH:=Lh h;have HS:=Lh hs;have HZ:=Lh hz;have hn:=h.n_le;have hm:=hs.n_le;obtain⟨n,hl⟩:=Xe ss.length;obtain⟨m,dD⟩:∃ n,n=syms.length:=⟨_,rfl⟩;rw[<-hl] at HH hn |-;rw[<-dD] at HS hm |-;have HL:=Lh hl;have HL2:=Lh dD;clear h hl hs dD hz;obtain⟨o,ho⟩:=Xe (lZ ss k syms);rw[<-ho];have HO:=Lh ho;clear ho;go_enter Tryz.func146,Tryz.ntmps146;go_wp2_with fail;have HB1:=Lh ((Xr w.heap.size w).alloc (Ya _) (.cells #[.string ⟨#[]⟩] 9));have HS1:=Lt (Je eW (w.alloc (.cells #[.string ⟨#[]⟩] 9)) (w.alloc (.cells #[.string ⟨#[]⟩] 9)).heap.size (.slice (some ⟨w.heap.size,0,none⟩) 1 1) [[]]) (Io (xs:=[[]]) (fun x hx=>by rw[Qi] at hx;subst hx;unfold maxLen;simp) (Rd.row (Xn w _) (by rw[Xs];omega)) (Ya _) (by unfold maxLen;omega));generalize w.alloc (.cells #[.string ⟨#[]⟩] 9)=w1 at *;go_loopw [16,8] (fun ju v8 wr=>∃(i q:Nat)(acc:List Wd)(A8:Option Addr)(c8:Nat),i<=m/\ju=.int .i64 i/\v8=.slice A8 q c8/\Hid (q=acc.length)/\Hid (o=Nd ss k acc (syms.drop i))/\Hid (Je eW wr wr.heap.size (.slice A8 acc.length c8) acc)/\Hid (bz acc/\acc.length<=4096)/\Hid (Below w.heap.size w wr)) (fun ju _ _=>m - (intOf ju).toNat);exact⟨0,1,[[]],_,1,by omega,rfl,rfl,rfl,HO.o,HS1.o,⟨fun x hx=>by rw[Qi] at hx;subst hx;simp,by simp⟩,HB1.o⟩;clear HS1 HB1;obtain⟨i,q,acc,A8,c8,hi,rfl,rfl,HQ,nI,sp,HSH,HBR⟩:=hrel;by_cases Ji:i<m
 ·have Nq:i<syms.length:=by rw[<-HL2.o];exact Ji
  obtain⟨b,off,cs,rfl,_,pM,Zx,Zm⟩:=(HS.o.below HBR.o).get (k:=i) Nq (by decide);obtain⟨rfl,Pr,gM⟩:=Zx;have Vh:=Zm 0 _ rfl;simp only[show Wo.size=1 from rfl,Yr,Yp] at Vh;have HD:=Lh (qfZ syms Nq);obtain⟨s,hse⟩:=Xe (syms[i]);rw[<-hse] at Vh Pr gM HD;clear Zm hse Nq;have zbC:=Lh (show o=(Ru ss s).bind fun x=>(Ea k acc x).bind fun o=>Nd ss k o (syms.drop (i+1)) by rw[nI.o,HD.o,mo]);clear nI HD;go_wp2_with fail;have yb:=qsE A c ss s wr (by rw[<-HL.o];exact HH.o.next HBR.o HBR.o.size) Pr gM;rw[<-HL.o] at yb;refine yb.mono ?_;rintro e w2 ⟨Ja,he⟩;have HB2:=Lh (HBR.o.trans (Ja.mono HBR.o.size));have zsL:=Lh (sp.o.next Ja Ja.size);cases h1:Ru ss s with
  |none =>
   rw[h1] at he;obtain⟨v,rfl⟩:=he;have HN:=Lh (show o=none by rw[zbC.o,h1];rfl);clear h1 Ja yb;go_wp2_with fail
   go_ret2
   refine⟨HB2.o,?_⟩;rw[HN.o];rfl
  |some x =>
   rw[h1] at he;obtain⟨A3,c3,rfl,Ab⟩:=he;have iK:=Lh (uz HZ.o h1);have zbB:=Lh (show o=(Ea k acc x).bind fun o=>Nd ss k o (syms.drop (i+1)) by rw[zbC.o,h1];rfl);have jn:=Lh Ab;obtain⟨r,hr⟩:=Xe x.length;rw[<-hr];have HR:=Lh hr;clear h1 Ja yb Ab zbC hr;go_wp2_with fail;have pL:=aM k A8 A3 c8 c3 acc x w2 Iu iH zsL.o jn.o HSH.o.1 iK.o.1 (by
    have e1:=HSH.o.2;have e2:=iK.o.2
    exact Yb (Nat.mul_le_mul e1 e2) (by decide))
   rw[<-HQ.o,<-HR.o] at pL;refine pL.mono ?_;rintro e w3 ⟨hb3,he⟩;have HB3:=Lh (HB2.o.trans (hb3.mono HB2.o.size));cases h2:Ea (k:Int) acc x with
   |none =>
    rw[h2] at he;subst he;have HN:=Lh (show o=none by rw[zbB.o,h2];rfl);clear h2 hb3 pL;go_wp2_with fail
    go_ret2
    refine⟨HB3.o,?_⟩;rw[HN.o];rfl
   |some z =>
    rw[h2] at he;obtain⟨v,rfl,hown⟩:=he;have HZ2:=Lh (zy iH h2);have zsY:=Lh (show o=Nd ss k z (syms.drop (i+1)) by rw[zbB.o,h2];rfl);have pY:=Lh (cX (fun y hy=>by have:=HZ2.o.1 y hy;unfold maxLen;omega) hown);obtain⟨A9,c9,rfl,_,_⟩:=Zo hown;obtain⟨t,ht⟩:=Xe z.length;have HT:=Lh ht;rw[<-ht];clear h2 hb3 pL hown zbB ht;go_wp2_with fail;exact⟨⟨i+1,t,z,A9,c9,by omega,by go_num,rfl,HT.o,zsY.o,pY.o,HZ2.o,HB3.o⟩,by simp[intOf];omega⟩
 ·have pb:i=m:=by omega
  have Mg:=Lh (show o=some acc by rw[nI.o,pb,HL2.o,List.drop_length];rfl);clear nI pb;go_wp2_with fail
  go_ret2
  refine⟨HBR.o,?_⟩;rw[Mg.o];refine⟨A8,c8,?_,sp.o⟩;rw[HQ.o];rfl
structure Tm where
 E:Nat->Nat->Nat->Bool
 F:Nat->Nat->Bool
def znC(w:Wd)(s:Int)(p:Nat):Bool:=decide (p<w.length)&&decide (((w.getD p 0).toNat:Int)=-1 - s)
def zdW(w:Wd)(E:Nat->Nat->Nat->Bool)(s:Int)(p q:Nat):Bool:=if s<0 then znC w s p&&decide (q=p+1) else decide (p<=q)&&E s.toNat p q
def qxT(w:Wd)(E:Nat->Nat->Nat->Bool)(s:Int)(now:List Bool)(P:Nat):List Bool:=(List.range (w.length+1)).map fun q=>(List.range P).any fun p=>now.getD p false&&zdW w E s p q
def qvG(w:Wd)(E:Nat->Nat->Nat->Bool)(now:List Bool)(s:Int):List Bool:=qxT w E s now (w.length+1)
def qvE(n at_:Nat):List Bool:=(List.replicate (n+1) false).set at_ true
def qaV(w:Wd)(E:Nat->Nat->Nat->Bool)(right:List Int)(at_:Nat):List Bool:=right.foldl (qvG w E) (qvE w.length at_)
def vJ(w:Wd)(T:Tm):List Bool->List Int->Bool
 |now,[]=>now.getD w.length false
 |now,s::l=>now.getD w.length false||((decide (0<=s)&&(List.range (w.length+1)).any fun p=>now.getD p false&&T.F s.toNat p)||vJ w T (qvG w T.E now s) l)
def qR(w:Wd)(T:Tm)(right:List Int)(at_:Nat):Bool:=vJ w T (qvE w.length at_) right
def zmX(T:Tm)(a p:Nat)(ends:List Bool)(m:Nat):Tm:=⟨fun a' p' q=>T.E a' p' q||(decide (a'=a)&&decide (p'=p)&&decide (q<m)&&ends.getD q false),T.F⟩
def zmW(T:Tm)(a p:Nat):Tm:=⟨T.E,fun a' p'=>T.F a' p'||(decide (a'=a)&&decide (p'=p))⟩
def znA(T:Tm)(a p:Nat)(ends:List Bool)(m:Nat):Bool:=(List.range m).any fun q=>ends.getD q false&&!T.E a p q
def qxS(w:Wd)(r:Int×List Int)(t:Tm×Bool)(p:Nat):Tm×Bool :=
 let ends:=qaV w t.1.E r.2 p
 let T1:=zmX t.1 r.1.toNat p ends (w.length+1)
 let m1:=t.2||znA t.1 r.1.toNat p ends (w.length+1)
 if T1.F r.1.toNat p=false/\qR w T1 r.2 p=true then (zmW T1 r.1.toNat p,true) else (T1,m1)
def zdJ(w:Wd)(t:Tm×Bool)(r:Int×List Int):Tm×Bool:=(List.range (w.length+1)).foldl (qxS w r) t
def zdO(w:Wd)(rs:Zu)(T:Tm):Option (Tm×Bool):=some (rs.foldl (zdJ w) (T,false))
def qiZ(w:Wd)(n:Nat):Tm:=⟨fun _ _ _=>false,fun a p=>decide (a<n)&&decide (p=w.length)⟩
def zyE(w:Wd)(rs:Zu)(n:Nat)(T:Tm):Prop:=RoundsTo (zdO w rs) (qiZ w n) (some T)
def qaW(w:Wd)(T:Tm)(k:Int)(right:List Int)(fol:Nat->Bool)(at_:Nat):Bool :=
 (decide ((w.length:Int)=k)&&qR w T right at_)||(List.range (w.length+1)).any fun q=>(qaV w T.E right at_).getD q false&&fol q
def zmY(O:Nat->Nat->Bool)(a p:Nat):Nat->Nat->Bool:=fun a' p'=>O a' p'||(decide (a'=a)&&decide (p'=p))
def zqY(w:Wd)(T:Tm)(k:Int)(a:Nat)(left:Int)(right:List Int)(o:(Nat->Nat->Bool)×Bool)(p:Nat):(Nat->Nat->Bool)×Bool :=
 if o.1 a p=false/\qaW w T k right (o.1 left.toNat) p=true then (zmY o.1 a p,true) else o
def zqW(w:Wd)(T:Tm)(k:Int)(r:Int×List Int)(o:(Nat->Nat->Bool)×Bool)(s:Nat):(Nat->Nat->Bool)×Bool :=
 if r.2.getD s 0<0 then o else (List.range (w.length+1)).foldl (zqY w T k (r.2.getD s 0).toNat r.1 (r.2.drop (s+1))) o
def zqX(w:Wd)(T:Tm)(k:Int)(o:(Nat->Nat->Bool)×Bool)(r:Int×List Int):(Nat->Nat->Bool)×Bool:=(List.range r.2.length).foldl (zqW w T k r) o
def zdP(w:Wd)(T:Tm)(k:Int)(rs:Zu)(O:Nat->Nat->Bool):Option ((Nat->Nat->Bool)×Bool):=some (rs.foldl (zqX w T k) (O,false))
def qnD(w:Wd)(k:Int)(n:Nat):Nat->Nat->Bool:=fun a p=>decide (a<n)&&decide (p=w.length)&&(decide ((w.length:Int)=k)||decide (a=0))
def zzY(w:Wd)(T:Tm)(k:Int)(rs:Zu)(n:Nat)(O:Nat->Nat->Bool):Prop:=RoundsTo (zdP w T k rs) (qnD w k n) (some O)
def sub(w:Wd)(p q:Nat):Wd:=(w.drop p).take (q - p)
def zyD(rs:Zu):Prop:=∀ a r,(a,r)∈rs->∀ s∈r,-256<=s
theorem zdG{s:Int}(h1:s<0)(h2:-256<=s):((tb s).toNat:Int)=-1 - s:=by
 unfold tb;rw[UInt8.toNat_ofNat'];omega
structure zrG(rs:Zu)(w:Wd)(T:Tm):Prop where
 exact_:∀ a p q,T.E a p q=true->p<=q/\q<=w.length/\∃ r,((a:Int),r)∈rs/\Der rs r (sub w p q)
 qaS:∀ a p,T.F a p=true->p<=w.length/\∃ r u,((a:Int),r)∈rs/\Der rs r u/\w.drop p <+: u
structure zmG(rs:Zu)(w:Wd)(T:Tm):Prop where
 exact_:∀ a r,(a,r)∈rs->∀ p,p<=w.length->∀ q,q<=w.length->(qaV w T.E r p).getD q false=true->T.E a.toNat p q=true
 qaS:∀ a r,(a,r)∈rs->∀ p,p<=w.length->qR w T r p=true->T.F a.toNat p=true
def zjF(w:Wd)(r:Int×List Int)(T:Tm)(p:Nat):Prop:=(∀ q,q<=w.length->(qaV w T.E r.2 p).getD q false=true->T.E r.1.toNat p q=true)/\(qR w T r.2 p=true->T.F r.1.toNat p=true)
def Mt(w:Wd)(k:Int)(x v:Wd):Prop:=if (w.length:Int)=k then x <+: v else x=v
def zrF(rs:Zu)(w:Wd)(k:Int)(O:Nat->Nat->Bool):Prop:=∀ a p,O a p=true->p<=w.length/\∃ v,Fol rs (a:Int) v/\Mt w k (w.drop p) v
def zmH(w:Wd)(T:Tm)(k:Int)(r:Int×List Int)(O:Nat->Nat->Bool)(s:Nat):Prop:=0<=r.2.getD s 0->∀ p,p<=w.length->qaW w T k (r.2.drop (s+1)) (O r.1.toNat) p=true->O (r.2.getD s 0).toNat p=true
abbrev Ud:=Int×Wd×Int
abbrev Wf:=Int×Wd×Int×Int
def Ve:Nat->Zu->Zw->List Ud
 |i,r::rs,s::ss=>s.map (fun w=>(r.1,w,(i:Int)))++Ve (i+1) rs ss
 |_,_,_=>[]
def Md(a b:Ud):Prop:=a.1<b.1\/a.1=b.1/\a.2.1<b.2.1
def Wc(rs:Zu)(left:Int):List Nat:=(List.range rs.length).filter fun i=>decide ((rs.getD i (0,[])).1=left)
def Dh(a b:List Wd):Option Wd:=(a.filter fun w=>decide (w∈b)).head?
def Ho(left:Int)(sets:Zw)(a b:Nat):List Wf :=
 match Dh (sets.getD a []) (sets.getD b []) with
 |none=>[]
 |some w=>[(left,w,(a:Int),(b:Int))]
def Bo(left:Int)(sets:Zw):List Nat->List Wf
 |[]=>[]
 |a::l=>l.flatMap (Ho left sets a)++Bo left sets l
def Mr(rs:Zu)(n:Nat)(sets:Zw):List Wf:=(List.range n).flatMap fun left:Nat=>Bo (left:Int) sets (Wc rs left)
theorem Pl:∀(i:Nat)(rs:Zu)(ss:Zw),ss.length=rs.length->∀ x:Ud,x∈Ve i rs ss↔∃(j:Nat)(r:Int×List Int)(s:List Wd),rs[j]? = some r/\ss[j]? = some s/\x.1=r.1/\x.2.1∈s/\x.2.2=((i+j:Nat):Int)
 |i,[],[],_,x=>by simp[Ve]
 |i,r::rs,s::ss,h,x=>by
  have ih:=Pl (i+1) rs ss (by simpa using h) x;simp only[Ve,Qh,Xa];rw[ih];constructor
  ·rintro (⟨w,hw,rfl⟩ | ⟨j,r',s',h1,h2,h3,h4,h5⟩)
   ·exact⟨0,r,s,by simp,by simp,rfl,hw,by simp⟩
   ·exact⟨j+1,r',s',by simpa using h1,by simpa using h2,h3,h4,by rw[h5];congr 1;omega⟩
  ·rintro⟨j,r',s',h1,h2,h3,h4,h5⟩;cases j with
   |zero =>
    simp only[List.getElem?_cons_zero,Option.some.injEq] at h1 h2;subst h1 h2;left;exact⟨x.2.1,h4,by rw[<-h3];obtain⟨a,b,c⟩:=x;simp only at h5 |-;rw[h5];simp⟩
   |succ j =>
    right;exact⟨j,r',s',by simpa using h1,by simpa using h2,h3,h4,by rw[h5];congr 1;omega⟩
theorem Td{rs:Zu}{left:Int}{i:Nat}:i∈Wc rs left↔∃ r,rs[i]? = some r/\r.1=left:=by
 unfold Wc;simp only[Qw,Xz,Yj,Qb];constructor
 ·rintro⟨h1,h2⟩;rw[Qa h1] at h2 |-;exact⟨_,rfl,h2⟩
 ·rintro⟨r,h1,h2⟩;have:=(Qj.1 h1).1;rw[h1];exact⟨this,h2⟩
theorem sG(rs:Zu)(left:Int):(Wc rs left).Pairwise (·<·):=List.Pairwise.filter _ List.pairwise_lt_range
theorem fh{a b:List Wd}{w:Wd}(h:Dh a b=some w):w∈a/\w∈b:=by
 have:=List.mem_of_head? h;simpa using this
theorem fl{a b:List Wd}(h:Dh a b=none):∀ w,w∈a->w∉b:=by
 unfold Dh at h;rw[List.head?_eq_none_iff,List.filter_eq_nil_iff] at h;intro w ha hb;exact h w ha (by simpa using hb)
theorem gI{left:Int}{sets:Zw}:∀(l:List Nat),l.Pairwise (·<·)->∀ c:Wf,c∈Bo left sets l↔∃ a b:Nat,a∈l/\b∈l/\a<b/\∃ w,Dh (sets.getD a []) (sets.getD b [])=some w/\c=(left,w,(a:Int),(b:Int))
 |[],_,c=>by simp[Bo]
 |x::l,hp,c=>by
  obtain⟨h1,h2⟩:=Qx.1 hp;have ih:=gI (left:=left) (sets:=sets) l h2 c;simp only[Bo,Qh,Xu];rw[ih];have wO:∀ b,c∈Ho left sets x b↔∃ w,Dh (sets.getD x []) (sets.getD b [])=some w/\c=(left,w,(x:Int),(b:Int)):=by
   intro b;unfold Ho;cases Dh (sets.getD x []) (sets.getD b []) with
   |none=>simp
   |some w=>simp
  constructor
  ·rintro (⟨b,hb,hc⟩ | ⟨a,b,ha,hb,Lj,h⟩)
   ·exact⟨x,b,by simp,by simp[hb],h1 b hb,(wO b).1 hc⟩
   ·exact⟨a,b,by simp[ha],by simp[hb],Lj,h⟩
  ·rintro⟨a,b,ha,hb,Lj,h⟩;rw[List.mem_cons] at ha hb;rcases ha with rfl | ha
   ·rcases hb with rfl | hb
    ·omega
    ·exact .inl ⟨b,hb,(wO b).2 h⟩
   ·rcases hb with rfl | hb
    ·have:=h1 a ha;omega
    ·exact .inr ⟨a,b,ha,hb,Lj,h⟩
theorem vg{rs:Zu}{n:Nat}{sets:Zw}{c:Wf}:c∈Mr rs n sets↔∃(a b:Nat)(ra rb:Int×List Int)(w:Wd),rs[a]? = some ra/\rs[b]? = some rb/\a<b/\ra.1=c.1/\rb.1=c.1/\0<=c.1/\c.1<n/\Dh (sets.getD a []) (sets.getD b [])=some w/\c=(c.1,w,(a:Int),(b:Int)):=by
 unfold Mr;rw[Xu];constructor
 ·rintro⟨left,hl,hc⟩;obtain⟨a,b,ha,hb,Lj,w,hw,rfl⟩:=(gI _ (sG rs left) c).1 hc;obtain⟨ra,hra,ea⟩:=Td.1 ha;obtain⟨rb,hrb,eb⟩:=Td.1 hb;have:=Xz.1 hl;exact⟨a,b,ra,rb,w,hra,hrb,Lj,ea,eb,by simp only;omega,by simp only;omega,hw,rfl⟩
 ·rintro⟨a,b,ra,rb,w,hra,hrb,Lj,ea,eb,h0,hn,hw,e⟩;have e1:((c.1.toNat:Nat):Int)=c.1:=Int.toNat_of_nonneg h0;refine⟨c.1.toNat,Xz.2 (by omega),(gI _ (sG rs _) c).2 ⟨a,b,Td.2 ⟨ra,hra,by rw[ea,e1]⟩,Td.2 ⟨rb,hrb,by rw[eb,e1]⟩,Lj,w,hw,by rw[e1];exact e⟩⟩
def lvl(t:Nat):Nat->List Wd
 |0=>[[]]
 |n+1=>(lvl t n).flatMap fun w=>(List.range t).map fun c=>w++[UInt8.ofNat c]
def fP(t:Nat):Nat->List Wd
 |0=>[[]]
 |n+1=>fP t n++lvl t (n+1)
def rq(t:Nat)(w:Wd):Prop:=∀ c∈w,c.toNat<t
theorem qaE{t:Nat}(ht:t<=256):∀(n:Nat)(w:Wd),w∈lvl t n↔w.length=n/\rq t w
 |0,w=>by
  simp only[lvl,Qi,List.length_eq_zero_iff];exact⟨fun h=>⟨h,by subst h;intro c hc;cases hc⟩,fun h=>h.1⟩
 |n+1,w=>by
  have ih:=qaE ht n;simp only[lvl,Xu,Xa,Xz];constructor
  ·rintro⟨v,hv,c,hc,rfl⟩;obtain⟨h1,h2⟩:=(ih v).1 hv;refine⟨by simp[h1],fun d hd=>?_⟩;rcases Qh.1 hd with hd | hd
   ·exact h2 d hd
   ·rw[Qi] at hd;subst hd;rw[UInt8.toNat_ofNat'];omega
  ·rintro⟨h1,h2⟩;have hne:w≠[]:=by intro e;subst e;simp at h1
   refine⟨w.dropLast,(ih _).2 ⟨by rw[List.length_dropLast];omega,fun c hc=>h2 c (List.dropLast_subset w hc)⟩,(w.getLast hne).toNat,h2 _ (List.getLast_mem hne),?_⟩;rw[UInt8.ofNat_toNat,List.dropLast_concat_getLast]
theorem Pk{t:Nat}(ht:t<=256):∀(n:Nat)(w:Wd),w∈fP t n↔w.length<=n/\rq t w
 |0,w=>by
  simp only[fP,Qi,Nat.le_zero,List.length_eq_zero_iff];exact⟨fun h=>⟨h,by subst h;intro c hc;cases hc⟩,fun h=>h.1⟩
 |n+1,w=>by
  simp only[fP,Qh];rw[Pk ht n w,qaE ht (n+1) w];constructor
  ·rintro (⟨h1,h2⟩ | ⟨h1,h2⟩)
   ·exact⟨by omega,h2⟩
   ·exact⟨by omega,h2⟩
  ·rintro⟨h1,h2⟩;rcases Nat.lt_or_ge w.length (n+1) with h | h
   ·exact .inl ⟨by omega,h2⟩
   ·exact .inr ⟨by omega,h2⟩
def ro(rs:Zu)(m:Nat):Prop:=∀ a r,(a,r)∈rs->∀ s∈r,-(m:Int)<=s
theorem qb{rs:Zu}{m:Nat}(hm:m<=256)(hT:ro rs m){l:List Int}{u:Wd}(h:Der rs l u):(∀ s∈l,-(m:Int)<=s)->rq m u:=by
 induction h with
 |nil=>intro _ c hc;cases hc
 |@term s l w hs hd ih =>
  intro hl c hc;rcases List.mem_cons.1 hc with rfl | hc
  ·have:=zdG hs (by have:=hl s (by simp);omega);have h2:=hl s (by simp);omega
  ·exact ih (fun s h=>hl s (by simp[h])) c hc
 |@nont a l r u v ha hr h1 h2 ih1 ih2 =>
  intro hl c hc;rcases Qh.1 hc with hc | hc
  ·exact ih1 (hT a r hr) c hc
  ·exact ih2 (fun s h=>hl s (by simp[h])) c hc
theorem qnC{rs:Zu}{m:Nat}(hm:m<=256)(hT:ro rs m){a:Int}{v:Wd}(h:Fol rs a v):rq m v:=by
 induction h with
 |start=>intro c hc;cases hc
 |@step a r l1 b l2 u v hr e hb hd hf ih =>
  intro c hc;rcases Qh.1 hc with hc | hc
  ·exact qb hm hT hd (fun s hs=>hT a r hr s (by rw[e];simp[hs])) c hc
  ·exact ih c hc
theorem N_{rs:Zu}{m k:Nat}(hm:m<=256)(hT:ro rs m){r:Int×List Int}(hr:r∈rs){z:Wd}(h:je rs k r z):z.length<=k/\rq m z:=by
 obtain⟨u,v,hu,hv,rfl⟩:=h;refine⟨by rw[Qq];omega,fun c hc=>?_⟩;rcases Qh.1 (List.mem_of_mem_take hc) with hc | hc
 ·exact qb hm hT hu (fun s hs=>hT r.1 r.2 hr s hs) c hc
 ·exact qnC hm hT hv c hc
def vh(rs:Zu)(ah:Nat->Bool)(a:Int):List Nat:=(List.range rs.length).filter fun i=>decide ((rs.getD i (0,[])).1=a)&&ah i
theorem gJ{rs:Zu}{ah:Nat->Bool}{a:Int}{i:Nat}:i∈vh rs ah a↔∃ r,rs[i]? = some r/\r.1=a/\ah i=true:=by
 unfold vh;simp only[Qw,Xz,Yl,Yj,Qb];constructor
 ·rintro⟨h1,h2,h3⟩;rw[Qa h1] at h2 |-;exact⟨_,rfl,h2,h3⟩
 ·rintro⟨r,h1,h2,h3⟩;have:=(Qj.1 h1).1;rw[h1];exact⟨this,h2,h3⟩
def zjH(rs:Zu)(k:Nat)(ah:Wd->Nat->Bool)(w:Wd):Prop:=∀(i:Nat)(r:Int×List Int),rs[i]? = some r->(ah w i=true↔je rs k r w)
section
variable {rs:Zu} {n m k:Nat} {sets:Zw} {ah:Wd->Nat->Bool}
theorem qG(hm:m<=256)(hT:ro rs m)(hM:vY rs n k sets)(hah:∀ w∈fP m k,zjH rs k ah w){x:Ud}:x∈Ve 0 rs sets↔∃ i:Nat,x.2.2=(i:Int)/\x.2.1∈fP m k/\i∈vh rs (ah x.2.1) x.1:=by
 rw[Pl 0 rs sets hM.len];constructor
 ·rintro⟨j,r,s,h1,h2,h3,h4,h5⟩;have d:=((hM.mean j r s h1 h2).2 x.2.1).1 h4;have hwd:x.2.1∈fP m k:=(Pk hm k _).2 (N_ hm hT (Qp h1) d);exact⟨j,by simpa using h5,hwd,gJ.2 ⟨r,h1,h3.symm,(hah _ hwd j r h1).2 d⟩⟩
 ·rintro⟨i,h1,h2,h3⟩;obtain⟨r,g1,g2,g3⟩:=gJ.1 h3;have Wt:=(Qj.1 g1).1;have s1:sets[i]? = some (sets[i]'(by rw[hM.len];exact Wt)):=Qa _;exact⟨i,r,_,g1,s1,g2.symm,((hM.mean i r _ g1 s1).2 _).2 ((hah _ h2 i r g1).1 g3),by simpa using h1⟩
end
def Ws(x:Ud):Int×Wd:=(x.1,x.2.1)
theorem qxL(a b:Wd):a<b\/a=b\/b<a:=by
 rcases List.le_total a b with h | h
 ·rcases List.le_iff_lt_or_eq.1 h with h | h
  ·exact .inl h
  ·exact .inr (.inl h)
 ·rcases List.le_iff_lt_or_eq.1 h with h | h
  ·exact .inr (.inr h)
  ·exact .inr (.inl h.symm)
theorem yZ(a b:Ud):Md a b\/Ws a=Ws b\/Md b a:=by
 unfold Md Ws;rcases Int.lt_trichotomy a.1 b.1 with h | h | h
 ·exact .inl (.inl h)
 ·rcases qxL a.2.1 b.2.1 with h2 | h2 | h2
  ·exact .inl (.inr ⟨h,h2⟩)
  ·exact .inr (.inl (by rw[h,h2]))
  ·exact .inr (.inr (.inr ⟨h.symm,h2⟩))
 ·exact .inr (.inr (.inl h))
theorem iZ{a b:Ud}(h:Md a b):Ws a≠Ws b:=by
 intro e;unfold Ws at e;injection e with e1 e2;rcases h with h | ⟨_,h⟩
 ·omega
 ·rw[e2] at h;exact List.lt_irrefl _ h
theorem aU{a b c:Ud}(h1:Md a b)(h2:Md b c):Md a c:=by
 rcases h1 with h1 | ⟨e1,h1⟩
 ·rcases h2 with h2 | ⟨e2,_⟩
  ·exact .inl (by omega)
  ·exact .inl (by omega)
 ·rcases h2 with h2 | ⟨e2,h2⟩
  ·exact .inl (by omega)
  ·exact .inr ⟨by omega,List.lt_trans h1 h2⟩
theorem nX{a b:Ud}(h1:Md a b):¬ Md b a:=fun h2=>iZ (aU h1 h2) rfl
theorem yX:∀(i:Nat)(rs:Zu)(ss:Zw),ss.length=rs.length->(∀(j:Nat)(x:List Wd),ss[j]? = some x->qC x)->(∀(j l:Nat)(a b:Int×List Int)(x y:List Wd),j<l->rs[j]? = some a->rs[l]? = some b->ss[j]? = some x->ss[l]? = some y->a.1=b.1->∀ w,w∈x->w∉y) ->
  (Ve i rs ss).Pairwise fun a b=>Ws a≠Ws b
 |i,[],[],_,_,_=>List.Pairwise.nil
 |i,r::rs,s::ss,hl,ha,hd=>by
  simp only[Ve];rw[List.pairwise_append];refine⟨?_,yX (i+1) rs ss (by simpa using hl) (fun j x h=>ha (j+1) x (by simpa using h)) (fun j l a b x y h h1 h2 h3 h4=>hd (j+1) (l+1) a b x y (by omega) (by simpa using h1) (by simpa using h2) (by simpa using h3) (by simpa using h4)),fun a hx b hy e=>?_⟩
  ·rw[List.pairwise_map];refine (ha 0 s (by simp)).imp fun{a b} Lj e=>?_;unfold Ws at e;injection e with _ e;simp only at e;subst e;exact List.lt_irrefl _ Lj
  ·obtain⟨w,hw,rfl⟩:=Xa.1 hx;obtain⟨j,r',s',h1,h2,h3,h4,h5⟩:=(Pl (i+1) rs ss (by simpa using hl) b).1 hy;unfold Ws at e;injection e with e1 e2;simp only at e1 e2;rw[<-e2] at h4;exact hd 0 (j+1) r r' s s' (by omega) (by simp) (by simpa using h1) (by simp) (by simpa using h2) (by rw[e1,h3]) w hw h4
theorem eQ{rs:Zu}{n k:Nat}{sets:Zw}(hw:Rn rs n)(hM:vY rs n k sets)(hc:Mr rs n sets=[]):(Ve 0 rs sets).Pairwise fun a b=>Ws a≠Ws b:=by
 refine yX 0 rs sets hM.len (fun j x h=>?_) fun j l a b x y h h1 h2 h3 h4 e w hx hy=>?_
 ·have hl:=(Qj.1 h).1;rw[hM.len] at hl;exact (hM.mean j _ x (Qa hl) h).1
 ·cases hcw:Dh (sets.getD j []) (sets.getD l []) with
  |none=>exact fl hcw w (by rw[Qb,h3];exact hx) (by rw[Qb,h4];exact hy)
  |some z =>
   have g:=hw a.1 a.2 (Qp h1);have:(a.1,z,(j:Int),(l:Int))∈Mr rs n sets:=vg.2 ⟨j,l,a,b,z,h1,h2,h,rfl,e.symm,g.1,g.2.1,hcw,rfl⟩;rw[hc] at this;cases this
theorem nU{l l':List Ud}(hp:l'.Perm l)(hk:l.Pairwise fun a b=>Ws a≠Ws b)(hs:l'.Pairwise fun a b=>¬ Md b a):l'.Pairwise Md:=by
 have oP:l'.Pairwise fun a b=>Ws a≠Ws b:=(hp.pairwise_iff (fun h=>h.symm)).2 hk;exact (hs.and oP).imp fun{a b} ⟨h1,h2⟩=>by
  rcases yZ a b with h | h | h
  ·exact h
  ·exact absurd h h2
  ·exact absurd h h1
section
variable {rs:Zu} {n m k:Nat} {sets:Zw} {ah:Wd->Nat->Bool} {rows:List Ud}
end
def Dj(l:List Wd):Prop:=∀ x∈l,x.length<=4
def Dr(s:Zw):Prop:=∀(i:Nat)(x:List Wd),s[i]? = some x->Dj x/\x.length<=4096
def Oq:Zw->Nat
 |[]=>0
 |x::s=>x.length+Oq s
theorem ct:∀(s:Zw)(a:Nat)(u:List Wd),a<s.length->Oq (s.set a u)+(s.getD a []).length=Oq s+u.length
 |[],a,u,h=>by simp at h
 |x::s,0,u,_=>by simp[Oq];omega
 |x::s,a+1,u,h=>by
  have:=ct s a u (by simpa using h);simp only[List.set_cons_succ,Oq,List.getD_cons_succ];omega
theorem tf:∀(s:Zw),Dr s->Oq s<=4096*s.length
 |[],_=>by simp[Oq]
 |x::s,h=>by
  have ih:=tf s (fun i y hy=>h (i+1) y (by simpa using hy));have:=(h 0 x (by simp)).2;simp only[Oq,Qu];omega
theorem zz{k:Nat}(hk:k<=4){a b o:List Wd}(h:Ea k a b=some o):Dj o/\o.length<=4096:=by
 refine⟨fun z hz=>?_,?_⟩
 ·obtain⟨x,_,y,_,rfl⟩:=(Fs h).1 hz;rw[Qq];simp;omega
 ·unfold Ea at h;split at h
  ·injection h with h;subst h;assumption
  ·cases h
theorem mq{k:Nat}(hk:k<=4){sets:Zw}:∀(syms:List Int)(acc out:List Wd),Dj acc/\acc.length<=4096->Nd sets k acc syms=some out->Dj out/\out.length<=4096
 |[],acc,out,ha,h=>by injection h with h;subst h;exact ha
 |s::l,acc,out,_,h=>by
  simp only[Nd] at h;cases h1:Ru sets s with
  |none=>rw[h1] at h;cases h
  |some x =>
   rw[h1,Option.bind_some] at h;cases h2:Ea (k:Int) acc x with
   |none=>rw[h2] at h;cases h
   |some o =>
    rw[h2,Option.bind_some] at h;exact mq hk l o out (zz hk h2) h
theorem x_{k:Nat}(hk:k<=4){sets:Zw}{syms:List Int}{out:List Wd}(h:lZ sets k syms=some out):Dj out/\out.length<=4096 :=
 mq hk syms [[]] out ⟨fun x hx=>by rw[Qi] at hx;subst hx;simp,by simp⟩ h
theorem Dr.getD{s:Zw}(h:Dr s)(a:Nat):Dj (s.getD a [])/\(s.getD a []).length<=4096:=by
 rw[Qb];cases e:s[a]? with
 |none=>exact⟨fun x hx=>(by cases hx),by simp⟩
 |some x=>exact h a x e
theorem Dr.set{s:Zw}(h:Dr s)(a:Nat){u:List Wd}(hu:Dj u/\u.length<=4096):Dr (s.set a u):=by
 intro b y hy;rw[Xv] at hy;split at hy
 ·split at hy
  ·injection hy with hy;subst hy;exact hu
  ·cases hy
 ·exact h b y hy
theorem Dr.replicate(n:Nat):Dr (List.replicate n []):=by
 intro b y hy;rw[Xg] at hy;split at hy
 ·injection hy with hy;subst hy;exact⟨fun x hx=>(by cases hx),by simp⟩
 ·cases hy
theorem Cw{a b:List Wd}(ha:Dj a)(hb:Dj b):Dj (Km a b):=fun x hx=>(Br.1 hx).elim (ha x) (hb x)
theorem qtO{k:Nat}(hk:k<=4){s s':Zw}{g:Bool}{r:Int×List Int}(hs:Dr s)(ha:Uv s)(hr:r.1.toNat<s.length)(e:Ew k s r=some (s',g)) :
  Dr s'/\Uv s'/\s'.length=s.length/\Oq s<=Oq s'/\(g=true->Oq s<Oq s'):=by
 unfold Ew at e;cases h1:lZ s k r.2 with
 |none=>rw[h1] at e;cases e
 |some x =>
  rw[h1,Option.bind_some] at e;split at e
  ·rename_i hle;injection e with e;injection e with e e2;subst e e2;have h3:=ct s r.1.toNat (Km (s.getD r.1.toNat []) x) hr;have h4:=(cM (b:=x) (ha.getD r.1.toNat)).1;change (s.getD r.1.toNat []).length<=(Km (s.getD r.1.toNat []) x).length at h4;refine⟨hs.set _ ⟨Cw (hs.getD _).1 (x_ hk h1).1,hle⟩,ha.set _ (Fz _ _),by simp,by omega,fun h=>?_⟩;have:=of_decide_eq_true h;omega
  ·cases e
open Go.RowKit
def Hi(lo e0:Nat)(w:World)(v:Value)(x:List Wd):Prop:=∀ w':World,(∀ p:Addr,(lo<=p.block\/p.block=e0)->p.block<w.heap.size->w'.cell? p=w.cell? p)->Je eW w' w.heap.size v x
theorem Hi.nil(lo e0:Nat)(w:World):Hi lo e0 w (.slice none 0 0) []:=fun _ _=>Je.nil_
theorem Hi.sl{lo e0:Nat}{w:World}{v:Value}{x:List Wd}(h:Hi lo e0 w v x):Je eW w w.heap.size v x:=h w fun _ _ _=>rfl
theorem Hi.keep{lo e0:Nat}{w w1:World}{v:Value}{x:List Wd}(h:Hi lo e0 w v x)(hs:w.heap.size<=w1.heap.size)(hk:∀ p:Addr,(lo<=p.block\/p.block=e0)->p.block<w.heap.size->w1.cell? p=w.cell? p):Hi lo e0 w1 v x:=fun w' hw =>
 (h w' fun p h1 h2=>(hw p h1 (Yd h2 hs)).trans (hk p h1 h2)).more hs
theorem Hi.own{lo e0 base:Nat}{t:TypeId}{w:World}{v:Value}{x:List Wd}(hf:nM x)(h:w.ownsRow base t 1 v x.length (Jf x))(hb:lo<=base\/(base<=e0/\∀ b,v.ownBlock=some b->b=e0)):Hi lo e0 w v x:=fun w' hw=>by
 obtain⟨A,c,rfl,h1,h2⟩:=Zo h;refine Io hf (fun hne=>?_) h1 h2;obtain⟨b,off,e,Ji,hc⟩:=Rd.of_own h hne;subst e;have hge:base<=b:=by
  rcases h.2 with ⟨hn,_⟩ | ⟨g,cap,cur,hv,hg,_⟩
  ·injection hn with e1;cases e1
  ·injection hv with e1 _ _;injection e1 with e1;injection e1 with e1 _;omega
 refine⟨b,off,rfl,Ji,fun j u hu=>(hw _ (by
  show lo<=b\/b=e0
  rcases hb with hb | ⟨_,hb⟩
  ·omega
  ·rcases h.2 with ⟨hn,_⟩ | ⟨g,cap,cur,hv,hg,_⟩
   ·injection hn with e1;cases e1
   ·injection hv with e1 _ _
    injection e1 with e1
    injection e1 with e1 e2
    subst e1 e2
    exact .inr (hb _ rfl)) Ji).trans (hc j u hu)⟩
def Ef(t:TypeId)(g lo e0:Nat)(w:World)(sets:Zw):Prop :=
 ∃ vs:List Value,w.heap[g]? = some (.cells vs.toArray t (0,0))/\vs.length=sets.length/\∀(i:Nat)(v:Value)(x:List Wd),vs[i]? = some v->sets[i]? = some x->Hi lo e0 w v x
theorem Ef.lt{t:TypeId}{g lo e0:Nat}{w:World}{sets:Zw}(h:Ef t g lo e0 w sets):g<w.heap.size:=by
 obtain⟨vs,h1,_⟩:=h;exact (gl h1)
theorem Ef.keep{t:TypeId}{g lo e0:Nat}{w w1:World}{sets:Zw}(h:Ef t g lo e0 w sets)(hs:w.heap.size<=w1.heap.size)(hg:w1.heap[g]? = w.heap[g]?)(hk:∀ b,(lo<=b\/b=e0)->b<w.heap.size->w1.heap[b]? = w.heap[b]?):Ef t g lo e0 w1 sets:=by
 obtain⟨vs,h1,h2,h3⟩:=h;exact⟨vs,hg.trans h1,h2,fun i v x hv hx=>(h3 i v x hv hx).keep hs fun p hp hl=>World.cell?_of_block (hk p.block hp hl)⟩
theorem Ef.below{t:TypeId}{g lo e0:Nat}{w w1:World}{sets:Zw}(h:Ef t g lo e0 w sets)(hb:Below w.heap.size w w1):Ef t g lo e0 w1 sets:=h.keep hb.size (hb.block g h.lt) fun b _ hl=>hb.block b hl
theorem Ef.other{t:TypeId}{g lo e0:Nat}{w:World}{sets:Zw}(h:Ef t g lo e0 w sets){p:Addr}(v:Value)(h1:g≠p.block)(h2:p.block<lo)(h3:p.block≠e0):Ef t g lo e0 (w.setCell p v) sets :=
 h.keep (by simp[World.setCell]) (Zd _ _ _ _ h1) fun b hb _=>Zd _ _ _ _ (by rcases hb with hb | hb <;> omega)
theorem Ef.set{t:TypeId}{g lo e0:Nat}{w:World}{sets:Zw}(h:Ef t g lo e0 w sets)(hlo:g<lo)(hge:g≠e0){k:Nat}{v:Value}{x:List Wd}(hv:Hi lo e0 w v x):Ef t g lo e0 (w.setCell ⟨g,k,none⟩ v) (sets.set k x):=by
 obtain⟨vs,h1,h2,h3⟩:=h;have oO:∀ p:Addr,(lo<=p.block\/p.block=e0)->p.block<w.heap.size->(w.setCell ⟨g,k,none⟩ v).cell? p=w.cell? p:=fun p hp _=>World.cell?_of_block (Zd _ _ _ _ (by show p.block≠g;rcases hp with hp | hp <;> omega));refine⟨vs.set k v,?_,by rw[Qm,Qm,h2],fun i u y hu hy=>?_⟩
 ·simp only[World.setCell,Xy,if_true,h1,Option.map_some];congr 2;simp
 ·rw[Xv] at hu hy;by_cases e:k=i
  ·rw[if_pos e] at hu hy;split at hu
   ·split at hy
    ·injection hu with hu;injection hy with hy;subst hu hy;exact hv.keep (by simp[World.setCell]) oO
    ·cases hy
   ·cases hu
  ·rw[if_neg e] at hu hy;exact (h3 i u y hu hy).keep (by simp[World.setCell]) oO
theorem Ef.get{t:TypeId}{g lo e0:Nat}{w:World}{sets:Zw}(h:Ef t g lo e0 w sets){k:Nat}(hk:k<sets.length):∃ A c,w.cell? ⟨g,k,none⟩=some (.slice A sets[k].length c)/\sets[k].length<=c/\c<=maxLen/\Hi lo e0 w (.slice A sets[k].length c) sets[k]/\w.frozen? ⟨g,k,none⟩=false:=by
 obtain⟨vs,h1,h2,h3⟩:=h;have hkv:k<vs.length:=by omega
 have hh:=h3 k _ _ (Qa hkv) (Qa hk);obtain⟨A,c,e,h4,h5⟩:=hh.sl.form;refine⟨A,c,?_,h4,h5,by rw[<-e];exact hh,by simp[World.frozen?,h1]⟩;rw[Zc w g k _ _ _ h1,<-e];simp[hkv]
theorem Ef.sl{t:TypeId}{g lo e0:Nat}{w:World}{sets:Zw}(h:Ef t g lo e0 w sets)(hl:sets.length<=maxLen):Je (Th eW) w w.heap.size (.slice (some ⟨g,0,none⟩) sets.length sets.length) sets:=by
 have Ji:=h.lt;obtain⟨vs,h1,h2,h3⟩:=h;have hfl:(vs.map fun v=>[v]).flatten=vs:=by
  clear h1 h2 h3
  induction vs with
  |nil=>rfl
  |cons v l ih=>rw[List.map_cons,List.flatten_cons,ih];rfl
 refine⟨some ⟨g,0,none⟩,sets.length,vs.map fun v=>[v],rfl,Ya _,hl,by simp[h2],?_,fun i cs x hc hx=>?_⟩
 ·rw[hfl];exact Rd.row h1 Ji
 ·rw[Qv] at hc;cases e:vs[i]? with
  |none=>rw[e] at hc;cases hc
  |some v =>
   rw[e] at hc;injection hc with hc;subst hc;exact⟨v,rfl,(h3 i v x e hx).sl⟩
theorem Ef.start{t:TypeId}{g lo e0:Nat}{w:World}{n:Nat}(h:w.heap[g]? = some (.cells (List.replicate n (Value.slice none 0 0)).toArray t (0,0))):Ef t g lo e0 w (List.replicate n []) :=
 ⟨_,h,by simp,fun i v x hv hx=>by
  rw[Xg] at hv hx
  split at hv
  ·rename_i hi
   rw[if_pos hi] at hx
   injection hv with hv
   injection hx with hx
   subst hv hx
   exact Hi.nil lo e0 w
  ·cases hv⟩
theorem m_{w:World}{g:Nat}{v1 v2:Value}{t:TypeId}{a b:List Wd}(h:w.heap[g]? = some (.cells #[v1,v2] t (0,0)))(h1:Je eW w w.heap.size v1 a)(h2:Je eW w w.heap.size v2 b):Je (Th eW) w w.heap.size (.slice (some ⟨g,0,none⟩) 2 2) [a,b]:=by
 refine⟨some ⟨g,0,none⟩,2,[[v1],[v2]],rfl,by simp,by unfold maxLen;omega,rfl,?_,fun i cs x hc hx=>?_⟩
 ·exact Rd.row h (gl h)
 ·match i,hc,hx with
  |0,hc,hx=>injection hc with hc;injection hx with hx;subst hc hx;exact⟨v1,rfl,h1⟩
  |1,hc,hx=>injection hc with hc;injection hx with hx;subst hc hx;exact⟨v2,rfl,h2⟩
  |i+2,hc,hx=>simp at hc
def Wj(l:List Bool):List Value:=l.map Value.bool
theorem Rd.bool{w:World}{B:Nat}{A:Option Addr}{l:List Bool}(h:Rd w B A (Wj l)){k:Nat}(hk:k<l.length):∃ b off,A=some ⟨b,off,none⟩/\b<B/\w.cell? ⟨b,off+k,none⟩=some (.bool l[k]):=by
 obtain⟨b,off,e,hb,hc⟩:=h.at_ (k:=k) (by simpa[Wj] using hk);exact⟨b,off,e,hb,by rw[hc];simp[Wj]⟩
theorem Rd.int_{w:World}{B:Nat}{A:Option Addr}{l:List Int}(h:Rd w B A (Kl l)){k:Nat}(hk:k<l.length):∃ b off,A=some ⟨b,off,none⟩/\b<B/\w.cell? ⟨b,off+k,none⟩=some (.int .i64 l[k]):=by
 obtain⟨b,off,e,hb,hc⟩:=h.at_ (k:=k) (by simpa[Kl] using hk);exact⟨b,off,e,hb,by rw[hc];simp[Kl]⟩
theorem fC(A:Option Addr)(c:Nat)(l:List Bool)(w:World)(h:Rd w w.heap.size A (Wj l))(hn:l.length<=1048576) :
  Calls Tryz.prog 70 #[.slice A l.length c,.bool false] w fun e w'=>e=.returned (.bool (!l.all id))/\w'=w:=by
 have Fv:Calls Tryz.prog 132 #[.slice A l.length c,.bool false] w fun e w'=>(∃ i:Int,e=.returned (.int .i64 i)/\decide (0<=i)=!l.all id)/\w'=w:=by
  have HR:=Lh h;obtain⟨n,hl⟩:=Xe l.length;rw[<-hl];have HL:=Lh hl;rw[<-hl] at hn;clear h hl;go_enter Tryz.func132,Tryz.ntmps132;go_wp2_with fail;go_loopw [8] (fun v8 wr=>∃ i:Nat,i<=n/\v8=.int .i64 i/\wr=w/\Hid ((l.take i).all id=true)) (fun v8 _=>n - (intOf v8).toNat);exact⟨0,by omega,rfl,rfl,by simp[Hid]⟩;obtain⟨i,hi,rfl,rfl,HI⟩:=hrel;by_cases Ji:i<n
  ·have Nq:i<l.length:=by rw[<-HL.o];exact Ji
   obtain⟨b,off,rfl,_,hc⟩:=HR.o.bool Nq;have HT:=Lh (Qc Nq);have HM:=Lh (Qg Nq);obtain⟨x,hx⟩:=Xe (l[i]);rw[<-hx] at hc HT HM;clear hx Nq;cases x with
   |true =>
    have HI2:=Lh (show (l.take (i+1)).all id=true by rw[HT.o,List.all_append,HI.o];rfl);go_wp2_with fail;exact⟨⟨i+1,by omega,by go_num,trivial,HI2.o⟩,by simp[intOf];omega⟩
   |false =>
    go_wp2_with fail;go_ret;refine⟨⟨i,rfl,?_⟩,rfl⟩;have:l.all id=false:=by
     rw[<-Bool.not_eq_true,Xp];intro h;have:=h _ HM.o;cases this
    rw[this];simp
  ·have pb:i=n:=by omega
   have Cq:=Lh (show l.all id=true by have:=HI.o;rwa [pb,HL.o,Qd (Ya _)] at this);go_wp2_with fail;go_ret;exact⟨⟨-1,rfl,by rw[Cq.o];rfl⟩,rfl⟩
 have HX:=Lh Fv;obtain⟨r,hr⟩:=Xe (!l.all id);rw[<-hr] at HX |-;clear Fv h hr;go_enter Tryz.func70,Tryz.ntmps70;go_wp2_with fail;refine HX.o.mono ?_;rintro e w1 ⟨⟨i,rfl,hi⟩,rfl⟩;have HI:=Lh hi;clear hi HX;go_wp2_with fail;go_ret;exact⟨Kx (Zv HI.o),rfl⟩
structure bZ(Mh:List Int)(P:List Bool):Prop where
 len:Mh.length=P.length
 val:∀(i:Nat)(x:Int),Mh[i]? = some x->-1<=x/\x<=1000000/\P[i]? = some (decide (0<=x))
def Ln(P:List Bool)(r:List Int):Bool:=r.all fun s=>decide (s<0)||P.getD s.toNat false
def zgW(w:World)(P:List Bool)(r:List Int)(e:Ending)(w':World):Prop:=∃ x:Int,e=.returned (.int .i64 x)/\-1<=x/\x<=1000000/\decide (0<=x)=Ln P r/\w'=w
theorem qrL(A B:Option Addr)(c d:Nat)(r Mh:List Int)(P:List Bool)(w:World)(h:Je Wo w w.heap.size (.slice A r.length c) r)(hv:Rd w w.heap.size B (Kl Mh))(hP:bZ Mh P)(hr:∀ s∈r,s<(P.length:Int))(hl:r.length<=64) :
  Calls Tryz.prog 198 #[.slice A r.length c,.slice B Mh.length d] w (zgW w P r):=by
 have HH:=Lh h;have HV:=Lh hv;have HP:=Lh hP;have HR:=Lh hr;obtain⟨n,hn⟩:=Xe r.length;obtain⟨m,hm⟩:=Xe Mh.length;rw[<-hn] at HH hl |-;rw[<-hm];have HN:=Lh hn;have HM:=Lh hm;clear h hv hP hr hn hm;go_enter Tryz.func198,Tryz.ntmps198;go_wp2_with fail;go_loopw [10,5] (fun v10 v5 wr=>∃(i:Nat)(t:Int),i<=n/\v10=.int .i64 i/\v5=.int .i64 t/\0<=t/\t<=1000000*i/\wr=w/\Hid (Ln P (r.take i)=true)) (fun v10 _ _=>n - (intOf v10).toNat);exact⟨0,0,by omega,rfl,rfl,by omega,by omega,rfl,by simp[Hid,Ln]⟩;obtain⟨i,t,hi,rfl,rfl,ht0,ht1,rfl,HI⟩:=hrel;by_cases Ji:i<n
 ·have Nq:i<r.length:=by rw[<-HN.o];exact Ji
  obtain⟨b,off,cs,rfl,_,pM,Zx,Zm⟩:=HH.o.get (k:=i) Nq (by decide);obtain⟨rfl,Pr,gM⟩:=Zx;have Vh:=Zm 0 _ rfl;simp only[show Wo.size=1 from rfl,Yr,Yp] at Vh;have HT:=Lh (Qc Nq);have nK:=Lh (Qg Nq);obtain⟨s,hse⟩:=Xe (r[i]);rw[<-hse] at Vh Pr gM HT nK;have wN:=HR.o s nK.o;rw[<-HP.o.len,<-HM.o] at wN;have hti:t<=64000000:=by omega
  clear Zm hse Nq;by_cases hs:s<0
  ·have hd:decide (s<0)=true:=by simpa using hs
   have HI2:=Lh (show Ln P (r.take (i+1))=true by rw[HT.o];unfold Ln;rw[List.all_append];have:=HI.o;unfold Ln at this;rw[this];simp[hs]);go_wp2_with fail;refine (Jd s wr).mono ?_;rintro e w1 ⟨rfl,rfl⟩;rw[hd];go_wp2_with fail;exact⟨⟨i+1,t+1,by omega,by go_num,rfl,by omega,by omega,trivial,HI2.o⟩,by simp[intOf];omega⟩
  ·have hd:decide (s<0)=false:=by simpa using hs
   obtain⟨k,rfl⟩:∃ k:Nat,s=(k:Int):=⟨s.toNat,by omega⟩;have hk:k<Mh.length:=by rw[<-HM.o];omega
   obtain⟨b2,o2,rfl,_,Uy⟩:=HV.o.int_ hk;obtain⟨g1,g2,g3⟩:=HP.o.val k _ (Qa hk);obtain⟨y,hy⟩:=Xe (Mh[k]);rw[<-hy] at Uy g1 g2 g3;have iD:=Lh g3;have hkm:k<m:=by rw[HM.o];exact hk
   clear hy g3 hk;by_cases hy0:y<0
   ·have HF:=Lh (show Ln P r=false by
     rw[<-Bool.not_eq_true]
     intro h
     unfold Ln at h
     have:=Xp.1 h _ nK.o
     rw[Qb,Yy,iD.o] at this
     simp at this
     omega)
    go_wp2_with fail;refine (Jd _ wr).mono ?_;rintro e w1 ⟨rfl,rfl⟩;rw[hd];go_wp2_with fail;go_ret;exact⟨-1,rfl,by omega,by omega,by rw[HF.o];rfl,rfl⟩
   ·have HI2:=Lh (show Ln P (r.take (i+1))=true by
     rw[HT.o];unfold Ln;rw[List.all_append];have:=HI.o;unfold Ln at this;rw[this]
     simp only[List.all_cons,List.all_nil,Bool.and_true,Bool.true_and,Yt,Yj]
     right
     rw[Qb,Yy,iD.o]
     simp
     omega)
    go_wp2_with fail;refine (Jd _ wr).mono ?_;rintro e w1 ⟨rfl,rfl⟩;rw[hd];go_wp2_with fail;exact⟨⟨i+1,t+y,by omega,by go_num,rfl,by omega,by omega,trivial,HI2.o⟩,by simp[intOf];omega⟩
 ·have pb:i=n:=by omega
  have HF:=Lh (show Ln P r=true by have:=HI.o;rwa [pb,HN.o,Qd (Ya _)] at this);have hti:t<=64000000:=by omega
  clear pb;go_wp2_with fail
  all_goals
   go_ret;refine⟨_,rfl,?_,?_,?_,rfl⟩
   ·omega
   ·omega
   ·rw[HF.o,Yj];omega
theorem uF{w w':World}(h:Below w.heap.size w w')(row:Option Nat):w.grownBy w' row:=⟨h.os,h.tape,h.output,h.size,fun k hk _=>h.block k hk⟩
theorem Ns{w w':World}{g N:Nat}(h:w.grownBy w' (some g))(hN:N<=g)(hw:N<=w.heap.size):Below N w w':=(Xr N w).grown h hw fun k hk=>by injection hk with hk;omega
theorem dE(w:World)(g k:Nat)(v:Value):w.grownBy (w.setCell ⟨g,k,none⟩ v) (some g):=⟨rfl,rfl,rfl,by simp[World.setCell],fun j _ hne=>Zd _ _ _ _ fun e=>hne (congrArg some e)⟩
abbrev yW(l:Int)(A:Option Addr)(n c:Nat):Value:=.agg #[.int .i64 l,.slice A n c]
def zgX{σ:Type}(F:FuncId)(cap:Array Value)(rs:Zu)(N g:Nat)(f:σ->Int×List Int->σ)(I:σ->World->Prop):Prop :=
 ∀(s:σ)(w1:World)(r:Int×List Int)(A:Option Addr)(n c:Nat),r∈rs->I s w1->g<w1.heap.size->n=r.2.length->Je Wo w1 N (.slice A n c) r.2 ->
  Calls Tryz.prog F (#[yW r.1 A n c]++cap) w1 fun e w2=>e=.returned (.tuple #[])/\I (f s r) w2/\w1.grownBy w2 (some g)
theorem zl{σ:Type}{f:σ->Int×List Int->σ}{rs:Zu}{j:Nat}(h:j<rs.length)(s:σ):(rs.drop j).foldl f s=(rs.drop (j+1)).foldl f (f s rs[j]):=by
 rw[Ql h,List.foldl_cons]
theorem sL{σ:Type}(F:FuncId)(cap:Array Value)(hF:∀(args:Array Value)(w:World),(callFunc F args).run Tryz.prog w=.ok (.enter F args) w)(f:σ->Int×List Int->σ)(I:σ->World->Prop)(v2:Value)(A1 A3:Option Addr)(n c1 c3 N g:Nat)(rs:Zu)(s0:σ)(w:World)
  (hn:n<=256) (h3:Je Vv w N (.slice A3 rs.length c3) rs) (hN:N<=g) (hg:g<w.heap.size) (hI:∀ s w1 w2,I s w1->Below w1.heap.size w1 w2->I s w2) (h0:I s0 w) (eT:zgX F cap rs N g f I) :
  Calls Tryz.prog 134 #[.agg #[.slice A1 n c1,v2,.slice A3 rs.length c3],.func (.func F) #[] cap] w fun e w'=>e=.returned (.tuple #[])/\I (Wg f rs (n+1) s0) w'/\w.grownBy w' (some g):=by
 have HF:=Lh hF;have H3:=Lh h3;have HI:=Lh hI;have H0:=Lh h0;have HS:=Lh eT;have hm9:=h3.n_le;obtain⟨m,hm⟩:=Xe rs.length;rw[<-hm] at H3 hm9 |-;have HM:=Lh hm;obtain⟨Oq,oh⟩:=Xe (Wg f rs (n+1) s0);rw[<-oh];have HT:=Lh oh;clear hF h3 hI h0 eT hm oh;go_enter Tryz.func134,Tryz.ntmps134;go_wp2_with fail;have k0:(w.alloc (.cells #[.slice A1 n c1,v2,.slice A3 m c3] 25)).heap[w.heap.size]? = some (.cells #[.slice A1 n c1,v2,.slice A3 m c3] 25 (0,0)):=Xn w _;have hb1:=(Xr w.heap.size w).alloc (Ya _) (.cells #[.slice A1 n c1,v2,.slice A3 m c3] 25);have HI1:=Lh (HI.o _ _ _ H0.o hb1);have HG1:=Lh (uF hb1 (some g));have pY:=Lh (Xs w (.cells #[.slice A1 n c1,v2,.slice A3 m c3] 25));have HK0:=Lh k0;have H31:=Lh (H3.o.below (hb1.mono (by omega:N<=w.heap.size)));clear k0 hb1;generalize w.alloc (.cells #[.slice A1 n c1,v2,.slice A3 m c3] 25)=w1 at *;go_loopw [10] (fun v10 wr=>∃(i:Nat)(s:σ),i<=n+1/\v10=.int .i64 i/\Hid (Oq=Wg f rs (n+1 - i) s)/\Hid (I s wr)/\Hid (w1.grownBy wr (some g))) (fun v10 _=>n+1 - (intOf v10).toNat);exact⟨0,s0,by omega,rfl,HT.o,HI1.o,World.grownBy.refl _ _⟩;clear HI1;obtain⟨i,s,hi,rfl,HTI,HIS,HGR⟩:=hrel;have k1:=(HGR.o.block w.heap.size (by rw[pY.o];omega) (fun e=>by injection e with e;omega)).trans HK0.o;have c0:wr.cell? ⟨w.heap.size,0,none⟩=some (.slice A1 n c1):=Xc k1 rfl;have c2:wr.cell? ⟨w.heap.size,2,none⟩=some (.slice A3 m c3):=Xc k1 rfl;by_cases Ji:i<n+1
 ·have HTI2:=Lh (show Oq=Wg f rs (n - i) (rs.foldl f s) by rw[HTI.o,show n+1 - i=(n - i)+1 by omega];rfl);have hdi:decide ((i:Int)<(n:Int)+1)=true:=by rw[Yj];omega
  clear HTI k1;go_wp2_with fail;go_loopw [15] (fun v15 wt=>∃(j:Nat)(t:σ),j<=m/\v15=.int .i64 j/\Hid (rs.foldl f s=(rs.drop j).foldl f t)/\Hid (I t wt)/\Hid (w1.grownBy wt (some g))) (fun v15 _=>m - (intOf v15).toNat);exact⟨0,s,by omega,rfl,rfl,HIS.o,HGR.o⟩;clear HIS HGR c0 c2;obtain⟨j,t,hj,rfl,HFD,HIT,HGT⟩:=hrel;have hbt:=Lh (Ns HGT.o hN (by rw[pY.o];omega));by_cases hjm:j<m
  ·have Mn:j<rs.length:=by rw[<-HM.o];exact hjm
   obtain⟨b,off,cs,rfl,_,pM,Zx,Zm⟩:=(H31.o.below hbt.o).get (k:=j) Mn (by decide);obtain⟨v,rfl,Mi,Ib,Sc⟩:=Kq Zx;obtain⟨A5,c5,rfl,Ic,kX⟩:=Mi.form;have Vh:=Zm 0 _ rfl;have Nj:=Zm 1 _ rfl;simp only[show Vv.size=2 from rfl,Yp,<-Yx] at Vh Nj;have HFD2:=Lh (show rs.foldl f s=(rs.drop (j+1)).foldl f (f t rs[j]) by rw[HFD.o,zl Mn]);have Tp:=Lh (Qg Mn);obtain⟨r,hr⟩:=Xe (rs[j]);rw[<-hr] at Vh Nj HFD2 Tp Mi Ib Sc Ic;obtain⟨q,hq⟩:=Xe r.2.length;rw[<-hq] at Nj Mi Ic;have HQ:=Lh hq;have HSL:=Lh Mi;clear Zm Zx hr hq Mi Mn HFD;go_wp2_with fail;have ziF:=Lh (HI.o _ _ _ HIT.o ((Xr wr.heap.size wr).alloc (Ya _) (.cells #[.int .i64 r.1,.slice A5 q c5] 63)));have HG2:=Lh (HGT.o.trans (World.grownBy_alloc wr (.cells #[.int .i64 r.1,.slice A5 q c5] 63) (some g)));have HB2:=Lh (((Xr wr.heap.size wr).alloc (Ya _) (.cells #[.int .i64 r.1,.slice A5 q c5] 63)));have ziK:=Lt (g<wr.heap.size) (Yd (by rw[pY.o];omega) HGT.o.size);rw[HF.o];refine (HS.o t _ r A5 q c5 Tp.o ziF.o (by rw[Xs];have:=ziK.o;omega) HQ.o (HSL.o.below (HB2.o.mono (by have:=ziK.o;omega)))).mono ?_;rintro e w5 ⟨rfl,hi5,aB⟩;have HI5:=Lh hi5;have HG5:=Lh (HG2.o.trans aB);clear hi5 aB ziF HG2 HIT HGT;go_wp2_with fail;go_roundw
   case rel =>
    exact⟨j+1,f t r,by omega,by go_num,HFD2.o,HI5.o,HG5.o⟩
   case measure=>simp[intOf];omega
  ·have zfP:j=m:=by omega
   have HTI3:=Lh (show Oq=Wg f rs (n+1 - (i+1)) t by
    rw[HTI2.o,HFD.o,zfP,HM.o,List.drop_length,show n+1 - (i+1)=n - i by omega];rfl)
   clear zfP HFD;go_wp2_with fail;exact⟨⟨i+1,t,by omega,by go_num,HTI3.o,HIT.o,HGT.o⟩,by simp[intOf];omega⟩
 ·have Mg:=Lh (show I Oq wr by
   have:=HTI.o
   rw[show n+1 - i=0 by omega] at this
   rw[this]
   exact HIS.o)
  go_wp2_with fail
  go_end0
  exact⟨rfl,Mg.o,HG1.o.trans HGR.o⟩
structure At(g SB n:Nat)(P:List Bool)(w:World):Prop where
 ex:∃ Mh,w.heap[g]? = some (.cells (Kl Mh).toArray 3 (0,0))/\bZ Mh P/\Mh.length=n
 box:w.heap[SB]? = some (.cells #[.slice (some ⟨g,0,none⟩) n n] 61 (0,0))
 ne:g≠SB
theorem At.below{g SB n:Nat}{P:List Bool}{w w':World}(h:At g SB n P w)(hb:Below w.heap.size w w'):At g SB n P w':=by
 obtain⟨Mh,h1,h2⟩:=h.ex;have l1:=(gl h1);have l2:=(gl h.box);exact⟨⟨Mh,(hb.block g l1).trans h1,h2⟩,(hb.block SB l2).trans h.box,h.ne⟩
theorem Ia{w:World}{g k:Nat}{Mh:List Int}(h:w.heap[g]? = some (.cells (Kl Mh).toArray 3 (0,0)))(hk:k<Mh.length):w.cell? ⟨g,k,none⟩=some (.int .i64 Mh[k]):=by
 rw[Zc w g k _ _ _ h];simp[Kl,hk]
theorem oK{w:World}{g k:Nat}{Mh:List Int}(h:w.heap[g]? = some (.cells (Kl Mh).toArray 3 (0,0)))(x:Int):(w.setCell ⟨g,k,none⟩ (.int .i64 x)).heap[g]? = some (.cells (Kl (Mh.set k x)).toArray 3 (0,0)):=by
 simp only[World.setCell,Xy,if_true,h,Option.map_some];congr 2;simp[Kl,List.map_set]
theorem bZ.set{Mh:List Int}{P:List Bool}(h:bZ Mh P){k:Nat}{x:Int}(h0:0<=x)(h1:x<=1000000):bZ (Mh.set k x) (P.set k true):=by
 refine⟨by rw[Qm,Qm];exact h.len,fun i y hy=>?_⟩;rw[Xv] at hy |-;split at hy
 ·rename_i e;split at hy
  ·rename_i hl;injection hy with hy;subst hy;rw[if_pos e,if_pos (by rw[<-h.len];exact hl)];exact⟨by omega,h1,by rw[Yv h0]⟩
  ·cases hy
 ·rename_i e;rw[if_neg e];exact h.val i y hy
theorem bZ.same{Mh:List Int}{P:List Bool}(h:bZ Mh P){k:Nat}{y:Int}(hy:Mh[k]? = some y)(h0:0<=y):P.set k true=P:=by
 have:=(h.val k y hy).2.2;rw[Yv h0] at this;apply List.ext_getElem?;intro i;rw[Xv];split
 ·rename_i e;subst e;rw[this];rw[if_pos (Qj.1 this).1]
 ·rfl
theorem oD(P:List Bool)(r:Int×List Int):Wb P r=if Ln P r.2 then P.set r.1.toNat true else P:=rfl
theorem xE(g SB n N:Nat)(P:List Bool)(k:Nat)(r:List Int)(A:Option Addr)(q c:Nat)(w:World)(h:At g SB n P w)(hk:k<n)(hq:q=r.length)(hq2:q<=64)(hr:∀ s∈r,s<(n:Int))(hs:Je Wo w N (.slice A q c) r)(hN:N<=w.heap.size) :
  Calls Tryz.prog 197 #[yW k A q c,.pointer (some ⟨SB,0,none⟩)] w fun e w'=>e=.returned (.tuple #[])/\At g SB n (Wb P ((k:Int),r)) w'/\w.grownBy w' (some g):=by
 obtain⟨Mh,h1,h2,h3⟩:=h.ex;have oP:k<Mh.length:=by omega
 have cS:=Vo h.box;have cY:=Ia h1 oP;have lS:=(gl h.box);have lG:=(gl h1);have fG:w.frozen? ⟨g,k,none⟩=false:=by simp[World.frozen?,h1]
 have HY:=Lt (Mh[k]? = some Mh[k]) (Qa oP);obtain⟨y,hy⟩:=Xe (Mh[k]);rw[<-hy] at cY HY;have H1:=Lh h1;have H2:=Lh h2;have H3:=Lh h3;have HH:=Lh h;have Mo:=(Xr w.heap.size w).alloc (Ya _) (.cells #[.int .i64 k,.slice A q c] 63);have zaR:=Lh (qrL A (some ⟨g,0,none⟩) c n r Mh P (w.alloc (.cells #[.int .i64 k,.slice A q c] 63)) (by rw[<-hq];exact hs.fut Mo hN (by rw[Xs];omega)) (by
  have:Rd (w.alloc (.cells #[.int .i64 k,.slice A q c] 63)) (w.alloc (.cells #[.int .i64 k,.slice A q c] 63)).heap.size (some ⟨g,0,none⟩) (Kl Mh).toArray.toList:=Rd.row ((Mo.block g lG).trans h1) (by rw[Xs];omega)
  exact this) h2 (fun s hs=>by rw[<-h2.len,h3];exact hr s hs) (by omega))
 rw[<-hq,h3] at zaR;have hby:=(h2.val k y HY.o).1;clear h1 h2 h3 hs h hq oP hy hr Mo;have HB:=Lh ((Xr w.heap.size w).alloc (Ya _) (.cells #[.int .i64 k,.slice A q c] 63));go_enter Tryz.func197,Tryz.ntmps197;go_wp2_with fail;refine zaR.o.mono ?_;rintro e w1 ⟨x,rfl,Pr,gM,hx3,rfl⟩;have HX3:=Lh hx3;clear hx3 zaR;by_cases ai:0<=x
 ·have ol:=HX3.o;rw[Yv ai] at ol;have HP:=Lh (show Wb P ((k:Int),r)=P.set k true by rw[oD,<-ol];simp);clear ol;have ei:∀ w2:World,w2=(w.setCell ⟨g,k,none⟩ (.int .i64 x)).alloc (.cells #[.int .i64 k,.slice A q c] 63)->At g SB n (Wb P ((k:Int),r)) w2/\w.grownBy w2 (some g):=by
   rintro w2 rfl;rw[HP.o];have hst:At g SB n (P.set k true) (w.setCell ⟨g,k,none⟩ (.int .i64 x)):=by
    refine⟨⟨Mh.set k x,oK H1.o x,H2.o.set ai gM,by rw[Qm];exact H3.o⟩,?_,HH.o.ne⟩;rw[Zd _ _ _ _ (fun e=>HH.o.ne e.symm)];exact HH.o.box
   refine⟨hst.below ((Xr _ _).alloc (Ya _) _),(dE w g k _).trans (World.grownBy_alloc _ _ _)⟩
  have Mg:=Lh ei;clear ei;by_cases hy0:y<0
  ·go_wp2_with fail
   go_end0
   exact⟨rfl,Mg.o _ rfl⟩
  ·by_cases hxy:x<y
   ·go_wp2_with fail
    go_end0
    exact⟨rfl,Mg.o _ rfl⟩
   ·go_wp2_with fail
    go_end0
    refine⟨rfl,?_,World.grownBy_alloc w _ _⟩;rw[HP.o,H2.o.same HY.o (by omega)];exact HH.o.below HB.o
 ·have ol:=HX3.o;rw[Yw ai] at ol;have HP:=Lh (show Wb P ((k:Int),r)=P by rw[oD,<-ol];simp);clear ol;go_wp2_with fail
  go_end0
  refine⟨rfl,?_,World.grownBy_alloc w _ _⟩;rw[HP.o];exact HH.o.below HB.o
abbrev Ri(A1 A2 A3:Option Addr)(n m q c1 c2 c3:Nat):Value:=.agg #[.slice A1 n c1,.slice A2 m c2,.slice A3 q c3]
structure Nb(w:World)(B:Nat)(A1 A2 A3:Option Addr)(n m q c1 c2 c3:Nat)(g:Kc):Prop where
 names:Je Nk w B (.slice A1 n c1) g.1
 terms:Je Nk w B (.slice A2 m c2) g.2.1
 rules:Je Vv w B (.slice A3 q c3) g.2.2
 small:n<=1048576/\m<=1048576/\q<=1048576
theorem Nb.ln{w:World}{B:Nat}{A1 A2 A3:Option Addr}{n m q c1 c2 c3:Nat}{g:Kc}(h:Nb w B A1 A2 A3 n m q c1 c2 c3 g):n=g.1.length/\m=g.2.1.length/\q=g.2.2.length:=⟨h.names.n_eq,h.terms.n_eq,h.rules.n_eq⟩
theorem Nb.fut{w w':World}{B B' N:Nat}{A1 A2 A3:Option Addr}{n m q c1 c2 c3:Nat}{g:Kc}(h:Nb w B A1 A2 A3 n m q c1 c2 c3 g)(hb:Below N w w')(h1:B<=N)(h2:B<=B'):Nb w' B' A1 A2 A3 n m q c1 c2 c3 g:=⟨h.names.fut hb h1 h2,h.terms.fut hb h1 h2,h.rules.fut hb h1 h2,h.small⟩
theorem Nb.valid{w:World}{A1 A2 A3:Option Addr}{n m q c1 c2 c3:Nat}{g:Kc}(h:Nb w w.heap.size A1 A2 A3 n m q c1 c2 c3 g):Calls Tryz.prog 69 #[Ri A1 A2 A3 n m q c1 c2 c3] w fun e w'=>e=.returned (.bool (Uj g))/\Below w.heap.size w w':=by
 obtain⟨l1,l2,_⟩:=h.ln;have:=h.small;exact Tc _ _ _ g.1 g.2.1 g.2.2 w (by omega) h.names h.terms h.rules
theorem zn{n m:Nat}{r:Int×List Int}(h:By n m r=true):0<=r.1/\r.1<n/\r.2.length<=64/\∀ s∈r.2,s<n/\-(m:Int)<=s:=by
 unfold By at h;simp only[Yl,Yj,Bool.not_eq_true',List.any_eq_false] at h;obtain⟨⟨⟨h1,h2⟩,h3⟩,h4⟩:=h;refine⟨h1,h2,h3,fun s hs=>?_⟩;have:=h4 s hs;unfold bV at this;simp only[Yt,Yj,not_or] at this;omega
structure wI(g:Kc):Prop where
 n1:1<=g.1.length
 nm:g.1.length+g.2.1.length<=256
 q:g.2.2.length<=4096
 fit:∀ r∈g.2.2,0<=r.1/\r.1<g.1.length/\r.2.length<=64/\∀ s∈r.2,s<g.1.length/\-(g.2.1.length:Int)<=s
theorem Wu{g:Kc}(h:Uj g=true):wI g:=by
 simp only[Uj,Yl,Yj] at h;obtain⟨⟨⟨⟨⟨⟨⟨a1,a2⟩,a3⟩,_⟩,_⟩,a6⟩,_⟩,_⟩:=h;exact⟨by omega,a2,a3,fun r hr=>zn (Xp.1 a6 r hr)⟩
theorem wI.well{g:Kc}(h:wI g):Rn g.2.2 g.1.length:=fun a r hr=>by
 obtain⟨h1,h2,_,h4⟩:=h.fit (a,r) hr;exact⟨h1,h2,fun s hs=>(h4 s hs).1⟩
theorem jF(P:List Bool)(r:Int×List Int):(Wb P r).length=P.length:=by
 unfold Wb;split
 ·rw[Qm]
 ·rfl
theorem Tv{f:List Bool->Int×List Int->List Bool}(hf:∀ P r,(f P r).length=P.length)(rs:Zu):∀(n:Nat)(P:List Bool),(Wg f rs n P).length=P.length
 |0,P=>rfl
 |n+1,P=>by
  have h:∀(l:Zu)(P:List Bool),(l.foldl f P).length=P.length:=by
   intro l
   induction l with
   |nil=>intro P;rfl
   |cons r l ih=>intro P;rw[List.foldl_cons,ih,hf]
  show (Wg f rs n (rs.foldl f P)).length=_;rw[Tv hf rs n,h]
def qbG(w:World)(P:List Bool)(e:Ending)(w':World):Prop :=
 ∃(g:Nat)(Mh:List Int),e=.returned (.slice (some ⟨g,0,none⟩) Mh.length Mh.length)/\w'.heap[g]? = some (.cells (Kl Mh).toArray 3 (0,0))/\bZ Mh P/\Below w.heap.size w w'
theorem dg{A1 A2 A3:Option Addr}{n m q c1 c2 c3:Nat}{g:Kc}(w:World)(h:Nb w w.heap.size A1 A2 A3 n m q c1 c2 c3 g)(hv:Uj g=true) :
  Calls Tryz.prog 133 #[Ri A1 A2 A3 n m q c1 c2 c3] w (qbG w (Ko g.2.2 n)):=by
 have Mo:=(Xr w.heap.size w).alloc (Ya _) (.cells #[.slice A1 n c1,.slice A2 m c2,.slice A3 q c3] 25);have HV:=Lh ((h.fut (B':=w.heap.size+1) Mo (Ya _) (by omega)));have HK:=Lh (Xn w (.cells #[.slice A1 n c1,.slice A2 m c2,.slice A3 q c3] 25));have HZ:=Lh (Xs w (.cells #[.slice A1 n c1,.slice A2 m c2,.slice A3 q c3] 25));have HBX:=Lh Mo;have HG:=Lh (Wu hv);have HVV:=Lh hv;have HL:=Lh h.ln;have wN:=h.small;clear h hv Mo;go_enter Tryz.func133,Tryz.ntmps133;go_wp2_with fail;generalize w.alloc (.cells #[.slice A1 n c1,.slice A2 m c2,.slice A3 q c3] 25)=w1 at *;refine (Nb.valid (w:=w1) (by rw[HZ.o];exact HV.o)).mono ?_;rintro e w2 ⟨rfl,Ja⟩;rw[HVV.o];have HB2:=Lh Ja;have k2:=(Ja.block w.heap.size (by rw[HZ.o];omega)).trans HK.o;have c0:w2.cell? ⟨w.heap.size,0,none⟩=some (.slice A1 n c1):=Xc k2 rfl;have HK2:=Lh k2;have Sc:w.heap.size<w2.heap.size:=by have:=Ja.size;have:=HZ.o;omega
 clear Ja k2;go_wp2_with fail;have hb3:=(Xr w2.heap.size w2).alloc (Ya _) (.cells #[.int .i64 (-1)] 3);have HN1:=Lh (show 1<=n by have:=HG.o.n1;have:=HL.o.1;omega);have Ci:=Lh (show n<=256 by have:=HG.o.nm;have:=HL.o.1;omega);refine (ue w2.heap.size 1 (-1) n _ (Xc (Xn w2 _) rfl) HN1.o (by have:=Ci.o;omega)).mono ?_;rintro e w4 ⟨gr,rfl,Lz,hge,hb4⟩;have jj:Below w2.heap.size w2 w4:=hb3.trans (hb4.mono (by rw[Xs];omega));have k4:=(jj.block w.heap.size Sc).trans HK2.o;have hz4:w.heap.size<w4.heap.size:=Yd Sc jj.size;have c0:w4.cell? ⟨w.heap.size,0,none⟩=some (.slice A1 n c1):=Xc k4 rfl;have c1':w4.cell? ⟨w.heap.size,1,none⟩=some (.slice A2 m c2):=Xc k4 rfl;have c2':w4.cell? ⟨w.heap.size,2,none⟩=some (.slice A3 q c3):=Xc k4 rfl;have HGR:=Lh Lz;have ir:=Lh (show w.heap.size+1<=gr by rw[Xs] at hge;omega);have HB4:=Lt (Below w.heap.size w w4) ((HBX.o.trans (HB2.o.mono (by rw[HZ.o];omega))).trans (jj.mono (Yg Sc)));have HW1:=Lt (Below (w.heap.size+1) w1 w4) ((HB2.o.mono (Yi HZ.o.symm)).trans (jj.mono Sc));have HLG:=Lh (gl Lz);clear Lz hge hb4 hb3 jj k4 Sc;go_wp2_with fail;have HB5:=Lh ((Xr w4.heap.size w4).alloc (Ya _) (.cells #[.slice (some ⟨gr,0,none⟩) n n] 61));have HK5:=Lh (Xn w4 (.cells #[.slice (some ⟨gr,0,none⟩) n n] 61));have HZ5:=Lh (Xs w4 (.cells #[.slice (some ⟨gr,0,none⟩) n n] 61));generalize w4.alloc (.cells #[.slice (some ⟨gr,0,none⟩) n n] 61)=w5 at *;have HST:=Lh (show At gr w4.heap.size n (List.replicate n false) w5 from ⟨⟨List.replicate n (-1),by rw[HB5.o.block gr HLG.o,HGR.o];simp[Kl],⟨by simp,fun i x hx=>by
  rw[Xg] at hx
  split at hx
  ·rename_i hi
   injection hx with hx
   subst hx
   exact⟨by omega,by omega,by rw[Xg,if_pos hi];rfl⟩
  ·cases hx⟩,by simp⟩,HK5.o,by have:=HLG.o;omega⟩)
 have HR5:=Lt (Je Vv w5 (w.heap.size+1) (.slice A3 q c3) g.2.2) ((HV.o.rules.below HW1.o).below (HB5.o.mono hz4));have hrd:=sL 197 #[.pointer (some ⟨w4.heap.size,0,none⟩)] (fun _ _=>by kernel_rfl) Wb (At gr w4.heap.size n) (.slice A2 m c2) A1 A3 n c1 c3 (w.heap.size+1) gr g.2.2 (List.replicate n false) w5 Ci.o (by rw[<-HL.o.2.2];exact HR5.o) ir.o (by rw[HZ5.o];have:=HLG.o;omega) (fun s w1 w2 h hb=>h.below hb) HST.o (fun s wx r A qq cc hr hs hgl hq Mi=>by
  obtain⟨f1,f2,f3,f4⟩:=HG.o.fit r hr
  obtain⟨k,hk⟩:∃ k:Nat,r.1=(k:Int):=⟨r.1.toNat,by omega⟩
  have:=xE gr w4.heap.size n (w.heap.size+1) s k r.2 A qq cc wx hs (by have:=HL.o.1;omega) hq (by omega) (fun x hx=>by have:=(f4 x hx).1;have:=HL.o.1;omega) Mi (by have:=ir.o;omega)
  rw[<-hk] at this
  exact this)
 rw[<-HL.o.2.2] at hrd;have ru:=Lh hrd;clear hrd;refine ru.o.mono ?_;rintro e w6 ⟨rfl,hst,hgw⟩;obtain⟨Mh,h1,h2,h3⟩:=hst.ex;have c6:=Vo hst.box;have Mg:=Lt (qbG w (Ko g.2.2 n) (.returned (.slice (some ⟨gr,0,none⟩) n n)) w6) (⟨gr,Mh,by rw[h3],h1,h2,(HB4.o.trans (HB5.o.mono (Yg hz4))).trans (Ns hgw (by have:=ir.o;omega) (by rw[HZ5.o];omega))⟩);clear h1 h2 h3 hst hgw ru;go_wp2_with fail;go_ret;exact Mg.o
theorem qgJ:Dc Tryz.prog 70 4 1 1 (.bool false):=Gq Tryz.underlying70 (by kernel_rfl) rfl (by omega)
def jb(w:World)(P:List Bool)(e:Ending)(w':World):Prop:=∃ A c,e=.returned (.slice A P.length c)/\Rd w' w'.heap.size A (Wj P)/\Below w.heap.size w w'
theorem fw(P:List Bool){k:Nat}(h:k<P.length):Wj (P.take (k+1))=Wj (P.take k)++[.bool P[k]]:=by
 unfold Wj;rw[Qc h,Qt];rfl
theorem sV{A1 A2 A3:Option Addr}{n m q c1 c2 c3:Nat}{g:Kc}(w:World)(h:Nb w w.heap.size A1 A2 A3 n m q c1 c2 c3 g)(hv:Uj g=true) :
  Calls Tryz.prog 71 #[Ri A1 A2 A3 n m q c1 c2 c3] w (jb w (Ko g.2.2 n)):=by
 have Mo:=(Xr w.heap.size w).alloc (Ya _) (.cells #[.slice A1 n c1,.slice A2 m c2,.slice A3 q c3] 25);have HZ:=Lh (Xs w (.cells #[.slice A1 n c1,.slice A2 m c2,.slice A3 q c3] 25));have HS:=Lh (dg (w.alloc (.cells #[.slice A1 n c1,.slice A2 m c2,.slice A3 q c3] 25)) (h.fut Mo (Ya _) (by rw[Xs];omega)) hv);have HBX:=Lh Mo;have Ci:=Lh (show n<=256 by have:=(Wu hv).nm;have:=h.ln.1;omega);have O_:=Lh (show (Ko g.2.2 n).length=n by unfold Ko;rw[Tv jF,Qr]);clear h hv Mo;obtain⟨P,hP⟩:=Xe (Ko g.2.2 n);rw[<-hP] at HS O_ |-;clear hP;go_enter Tryz.func71,Tryz.ntmps71;go_wp2_with fail;generalize w.alloc (.cells #[.slice A1 n c1,.slice A2 m c2,.slice A3 q c3] 25)=w1 at *;refine HS.o.mono ?_;rintro e w2 ⟨gr,Mh,rfl,hg,hr,Ja⟩;have HG:=Lh hg;have HR:=Lh hr;have HB2:=Lh (HBX.o.trans (Ja.mono (by rw[HZ.o];omega)));have io:=Lh (show Mh.length=n by rw[hr.len,O_.o]);have HLG:=Lh (gl hg);clear hg hr Ja;rw[io.o];go_wp2_with fail;go_loopw [9,3] (fun v9 v3 wr=>∃ i:Nat,i<=n/\v9=.int .i64 i/\Hid (wr.ownsRow w2.heap.size 4 1 v3 i (Wj (P.take i)))/\Hid (Below w2.heap.size w2 wr)) (fun v9 _ _=>n - (intOf v9).toNat);exact⟨0,by omega,rfl,Yz _ _ _ _,Xr _ _⟩;obtain⟨i,hi,rfl,HO,HB⟩:=hrel;have zvX:=Ci.o;by_cases Ji:i<n
 ·have Nq:i<Mh.length:=by rw[io.o];exact Ji
  have Zm:=Ia ((HB.o.block gr HLG.o).trans HG.o) Nq;obtain⟨y1,y2,y3⟩:=HR.o.val i _ (Qa Nq);have qyT:i<P.length:=by rw[O_.o];exact Ji
  rw[Qa qyT] at y3;have HSN:=Lh (fw P qyT);obtain⟨x,hx⟩:=Xe (Mh[i]);rw[<-hx] at Zm y1 y2 y3;injection y3 with y3;rw[y3] at HSN;clear hx y3 Nq qyT;obtain⟨A5,c5,rfl,Ic,kX⟩:=Zo HO.o;go_wp2_with (at_builtin;refine Zz (m:=1) (n:=i) qgJ rfl rfl rfl rfl (HO.o.alloc _) (Rd.row (B:=wr.heap.size+1) (Xn wr _) (by omega)) rfl (fun u hu=>by simp at hu;subst hu;rfl) (by have:=Ci.o;unfold maxLen;omega) (by have:=Ci.o;omega) (by rw[Xs];have:=HB.o.size;omega) ?_);intro v' w' ho hg _ _;have HO2:Hid (w'.ownsRow _ 4 1 v' (i+1) (Wj (P.take (i+1)))):=Lh (by rw[HSN.o];exact ho);have HB3:=Lh (Zt (HB.o.alloc HB.o.size _) hg (HO.o.alloc _) (Ya _) (by rw[Xs];have:=HB.o.size;omega));obtain⟨A6,c6,rfl,hl7,yn⟩:=Zo ho;clear ho hg;go_wp2_with fail;go_roundw;exact⟨i+1,by omega,by go_num,HO2.o,HB3.o⟩;simp[intOf];omega
 ·have pb:i=n:=by omega
  have HO9:Hid (wr.ownsRow w2.heap.size 4 1 u3 n (Wj P)):=Lh (by
   have:=HO.o
   rw[pb,Qd (by rw[O_.o];omega)] at this
   exact this)
  clear HO pb;obtain⟨A5,c5,rfl,Ic,kX⟩:=Zo HO9.o;go_wp2_with fail;go_ret;exact⟨A5,c5,by rw[O_.o];rfl,Rd.of_own HO9.o,HB2.o.trans (HB.o.mono HB2.o.size)⟩
structure Av(g SB n:Nat)(R:List Bool)(w:World):Prop where
 row:w.heap[g]? = some (.cells (Wj R).toArray 4 (0,0))
 len:R.length=n
 box:w.heap[SB]? = some (.cells #[.slice (some ⟨g,0,none⟩) n n] 70 (0,0))
 ne:g≠SB
theorem Av.below{g SB n:Nat}{R:List Bool}{w w':World}(h:Av g SB n R w)(hb:Below w.heap.size w w'):Av g SB n R w' :=
 ⟨(hb.block g (gl h.row)).trans h.row,h.len,(hb.block SB (gl h.box)).trans h.box,h.ne⟩
theorem Pz{w:World}{g k:Nat}{l:List Bool}(h:w.heap[g]? = some (.cells (Wj l).toArray 4 (0,0)))(hk:k<l.length):w.cell? ⟨g,k,none⟩=some (.bool l[k]):=by
 rw[Zc w g k _ _ _ h];simp[Wj,hk]
theorem kC{w:World}{g k:Nat}{l:List Bool}(h:w.heap[g]? = some (.cells (Wj l).toArray 4 (0,0)))(x:Bool):(w.setCell ⟨g,k,none⟩ (.bool x)).heap[g]? = some (.cells (Wj (l.set k x)).toArray 4 (0,0)):=by
 simp only[World.setCell,Xy,if_true,h,Option.map_some];congr 2;simp[Wj,List.map_set]
theorem dm(R:List Bool)(l s:Int):(Jq R l s).length=R.length:=by
 unfold Jq;split
 ·rw[Qm]
 ·rfl
theorem xJ(g SB n N:Nat)(R:List Bool)(k:Nat)(r:List Int)(A:Option Addr)(q c:Nat)(w:World)(h:Av g SB n R w)(hk:k<n)(hq:q=r.length)(hr:∀ s∈r,s<(n:Int))(hs:Je Wo w N (.slice A q c) r)(hN:N<=g)(hN2:N<=w.heap.size) :
  Calls Tryz.prog 135 #[yW k A q c,.pointer (some ⟨SB,0,none⟩)] w fun e w'=>e=.returned (.tuple #[])/\Av g SB n (Wh R ((k:Int),r)) w'/\w.grownBy w' (some g):=by
 have HH:=Lh h;have HS:=Lh hs;have HR:=Lh hr;have HQ:=Lh hq;have hq9:=hs.n_le;have HB:=Lh ((Xr w.heap.size w).alloc (Ya _) (.cells #[.int .i64 k,.slice A q c] 63));have HK:=Lh (Xn w (.cells #[.int .i64 k,.slice A q c] 63));have HZ:=Lh (Xs w (.cells #[.int .i64 k,.slice A q c] 63));have HGN:=Lh (World.grownBy_alloc w (.cells #[.int .i64 k,.slice A q c] 63) (some g));have HLG:=Lh (gl h.row);obtain⟨fin,ei⟩:=Xe (Wh R ((k:Int),r));rw[<-ei];have HF:=Lh ei;clear h hs hr hq ei;go_enter Tryz.func135,Tryz.ntmps135;go_wp2_with fail;have HST:=Lh (HH.o.below HB.o);have c1:(w.alloc (.cells #[.int .i64 k,.slice A q c] 63)).cell? ⟨w.heap.size,1,none⟩=some (.slice A q c):=Xc HK.o rfl;generalize w.alloc (.cells #[.int .i64 k,.slice A q c] 63)=w1 at *;go_loopw [8] (fun v8 wr=>∃(j:Nat)(S:List Bool),j<=q/\v8=.int .i64 j/\Hid (fin=(r.drop j).foldl (fun R s=>Jq R k s) S)/\Hid (Av g SB n S wr)/\Hid (w1.grownBy wr (some g))) (fun v8 _=>q - (intOf v8).toNat);exact⟨0,R,by omega,rfl,HF.o,HST.o,World.grownBy.refl _ _⟩;clear HST c1;obtain⟨j,S,hj,rfl,HFD,HST,HGR⟩:=hrel;have HBN:=Lt (Below N w wr) ((HB.o.mono hN2).trans (Ns HGR.o hN (by rw[HZ.o];omega)));have k1:=(HGR.o.block w.heap.size (by rw[HZ.o];omega) (fun e=>by injection e with e;have:=HLG.o;omega)).trans HK.o;have c0:wr.cell? ⟨w.heap.size,0,none⟩=some (.int .i64 k):=Xc k1 rfl;by_cases Ji:j<q
 ·have Nq:j<r.length:=by rw[<-HQ.o];exact Ji
  obtain⟨b,off,cs,rfl,_,pM,Zx,Zm⟩:=(HS.o.below HBN.o).get (k:=j) Nq (by decide);obtain⟨rfl,Pr,gM⟩:=Zx;have Vh:=Zm 0 _ rfl;simp only[show Wo.size=1 from rfl,Yr,Yp] at Vh;have HFD2:=Lh (show fin=(r.drop (j+1)).foldl (fun R s=>Jq R k s) (Jq S k r[j]) by rw[HFD.o,Ql Nq,List.foldl_cons]);have wN:=HR.o _ (Qg Nq);obtain⟨s,hse⟩:=Xe (r[j]);rw[<-hse] at Vh Pr gM HFD2 wN;have cS:=Vo HST.o.box;have hkS:k<S.length:=by rw[HST.o.len];exact hk
  have cK:=Pz HST.o.row hkS;have HKB:=Lh (show S.getD k false=S[k] by rw[Qb,Qa hkS];rfl);obtain⟨bk,kZ⟩:=Xe (S[k]);rw[<-kZ] at cK HKB;clear Zm hse Nq kZ hkS HFD;cases bk with
  |false =>
   have HSY:=Lh (show Jq S k s=S by unfold Jq;rw[Yy,HKB.o];simp);go_wp2_with fail;go_roundw;exact⟨j+1,S,by omega,by go_num,by have:=HFD2.o;rw[HSY.o] at this;exact this,HST.o,HGR.o⟩;simp[intOf];omega
  |true =>
   by_cases oq:s<0
   ·have hd:decide (s<0)=true:=by simpa using oq
    have HSY:=Lh (show Jq S k s=S by unfold Jq;rw[Yy,HKB.o];simp;omega);go_wp2_with fail;refine (Jd s _).mono ?_;rintro e w5 ⟨rfl,rfl⟩;rw[hd];go_wp2_with fail;go_roundw;exact⟨j+1,S,by omega,by go_num,by have:=HFD2.o;rw[HSY.o] at this;exact this,HST.o,HGR.o⟩;simp[intOf];omega
   ·have hd:decide (s<0)=false:=by simpa using oq
    obtain⟨t,rfl⟩:∃ t:Nat,s=(t:Int):=⟨s.toNat,by omega⟩;have HSY:=Lh (show Jq S k (t:Int)=S.set t true by unfold Jq;rw[Yy,HKB.o];simp);have htS:t<S.length:=by rw[HST.o.len];omega
    have cT:=Pz HST.o.row htS;have fT:wr.frozen? ⟨g,t,none⟩=false:=by simp[World.frozen?,HST.o.row]
    obtain⟨bt,hbt⟩:=Xe (S[t]);rw[<-hbt] at cT;clear hbt htS;have HST2:=Lt (Av g SB n (S.set t true) (wr.setCell ⟨g,t,none⟩ (.bool true))) (⟨kC HST.o.row true,by rw[Qm];exact HST.o.len,by rw[Zd _ _ _ _ (fun e=>HST.o.ne e.symm)];exact HST.o.box,HST.o.ne⟩);go_wp2_with fail;refine (Jd _ _).mono ?_;rintro e w5 ⟨rfl,rfl⟩;rw[hd];go_wp2_with fail;go_roundw;exact⟨j+1,S.set t true,by omega,by go_num,by have:=HFD2.o;rw[HSY.o] at this;exact this,HST2.o,HGR.o.trans (dE _ g t _)⟩;simp[intOf];omega
 ·have Mg:=Lh (show fin=S by rw[HFD.o,show j=r.length by rw[<-HQ.o];omega,List.drop_length];rfl);go_wp2_with fail
  go_end0
  exact⟨rfl,by rw[Mg.o];exact HST.o,HGN.o.trans HGR.o⟩
def fW(n:Nat):List Bool:=(List.replicate n false).set 0 true
theorem lp{A1 A2 A3:Option Addr}{n m q c1 c2 c3:Nat}{g:Kc}(w:World)(h:Nb w w.heap.size A1 A2 A3 n m q c1 c2 c3 g)(hv:Uj g=true) :
  Calls Tryz.prog 72 #[Ri A1 A2 A3 n m q c1 c2 c3] w (jb w (Uk g.2.2 n)):=by
 have Mo:=(Xr w.heap.size w).alloc (Ya _) (.cells #[.slice A1 n c1,.slice A2 m c2,.slice A3 q c3] 25);have HV:=Lh ((h.fut (B':=w.heap.size+1) Mo (Ya _) (by omega)));have HK:=Lh (Xn w (.cells #[.slice A1 n c1,.slice A2 m c2,.slice A3 q c3] 25));have HZ:=Lh (Xs w (.cells #[.slice A1 n c1,.slice A2 m c2,.slice A3 q c3] 25));have HBX:=Lh Mo;have HG:=Lh (Wu hv);have HVV:=Lh hv;have HL:=Lh h.ln;have wN:=h.small;have HN1:=Lh (show 1<=n by have:=HG.o.n1;have:=HL.o.1;omega);have Ci:=Lh (show n<=256 by have:=HG.o.nm;have:=HL.o.1;omega);clear h hv Mo;go_enter Tryz.func72,Tryz.ntmps72;go_wp2_with fail;generalize w.alloc (.cells #[.slice A1 n c1,.slice A2 m c2,.slice A3 q c3] 25)=w1 at *;refine (Nb.valid (w:=w1) (by rw[HZ.o];exact HV.o)).mono ?_;rintro e w2 ⟨rfl,Ja⟩;rw[HVV.o];have HB2:=Lh Ja;have Sc:w.heap.size<w2.heap.size:=by have:=Ja.size;have:=HZ.o;omega
 have k2:=(Ja.block w.heap.size (by rw[HZ.o];omega)).trans HK.o;have c0:w2.cell? ⟨w.heap.size,0,none⟩=some (.slice A1 n c1):=Xc k2 rfl;have qL:=qgI n (by have:=Ci.o;omega) w2;have hb3:=(Xr w2.heap.size w2).alloc (Ya _) (.cells (Wj (List.replicate n false)).toArray 4);rw[show List.replicate n (Value.bool false)=Wj (List.replicate n false) by simp[Wj]] at qL;have lC:=Lh (Xn w2 (.cells (Wj (List.replicate n false)).toArray 4));have wU:=Lh (Xs w2 (.cells (Wj (List.replicate n false)).toArray 4));have H_:=Lh ((hb3.block w.heap.size Sc).trans k2);have HB3:=Lh hb3;obtain⟨w3,xu⟩:=Xe (w2.alloc (.cells (Wj (List.replicate n false)).toArray 4));rw[<-xu] at qL lC wU HB3 H_;have hz3:w2.heap.size<w3.heap.size:=by rw[wU.o];omega
 have znE:w.heap.size<w3.heap.size:=by omega
 have c9:w3.cell? ⟨w2.heap.size,0,none⟩=some (.bool false):=by
  rw[Pz lC.o (by rw[Qr];exact HN1.o)];simp
 have f9:w3.frozen? ⟨w2.heap.size,0,none⟩=false:=by simp[World.frozen?,lC.o]
 have d0:w3.cell? ⟨w.heap.size,0,none⟩=some (.slice A1 n c1):=Xc H_.o rfl;have d1:w3.cell? ⟨w.heap.size,1,none⟩=some (.slice A2 m c2):=Xc H_.o rfl;have d2:w3.cell? ⟨w.heap.size,2,none⟩=some (.slice A3 q c3):=Xc H_.o rfl;have hne:w.heap.size≠w2.heap.size:=by omega
 have hn0:0<n:=HN1.o;have HW3:=Lt (Below (w.heap.size+1) w1 w3) ((HB2.o.mono (Yi HZ.o.symm)).trans (HB3.o.mono Sc));clear xu Ja k2 hb3;go_wp2_with fail;have HB4:=Lh ((Xr (w3.setCell ⟨w2.heap.size,0,none⟩ (.bool true)).heap.size (w3.setCell ⟨w2.heap.size,0,none⟩ (.bool true))).alloc (Ya _) (.cells #[.slice (some ⟨w2.heap.size,0,none⟩) n n] 70));have HK4:=Lh (Xn (w3.setCell ⟨w2.heap.size,0,none⟩ (.bool true)) (.cells #[.slice (some ⟨w2.heap.size,0,none⟩) n n] 70));have HZ4:=Lh (Xs (w3.setCell ⟨w2.heap.size,0,none⟩ (.bool true)) (.cells #[.slice (some ⟨w2.heap.size,0,none⟩) n n] 70));have Ek:(w3.setCell ⟨w2.heap.size,0,none⟩ (.bool true)).heap.size=w3.heap.size:=by simp[World.setCell]
 have HR4:=Lh (kC lC.o (k:=0) true);have Db:=Lt (Below w2.heap.size w3 (w3.setCell ⟨w2.heap.size,0,none⟩ (.bool true))) (Below.setCell (p:=⟨w2.heap.size,0,none⟩) (Xr _ _) (Ya _) _);rw[Ek] at HB4 HK4 HZ4;generalize (w3.setCell ⟨w2.heap.size,0,none⟩ (.bool true))=ws at *;generalize ws.alloc (.cells #[.slice (some ⟨w2.heap.size,0,none⟩) n n] 70)=w5 at *;have HST:=Lt (Av w2.heap.size w3.heap.size n (fW n) w5) (⟨(HB4.o.block w2.heap.size hz3).trans HR4.o,by simp[fW],HK4.o,by omega⟩);have HBA:=Lt (Below (w.heap.size+1) w1 w5) ((HW3.o.trans (Db.o.mono Sc)).trans (HB4.o.mono znE));have hrd:=sL 135 #[.pointer (some ⟨w3.heap.size,0,none⟩)] (fun _ _=>by kernel_rfl) Wh (Av w2.heap.size w3.heap.size n) (.slice A2 m c2) A1 A3 n c1 c3 (w.heap.size+1) w2.heap.size g.2.2 (fW n) w5 Ci.o (by rw[<-HL.o.2.2];exact HV.o.rules.below HBA.o) Sc (by rw[HZ4.o];omega) (fun s w1 w2 h hb=>h.below hb) HST.o (fun s wx r A qq cc hr hs hgl hq Mi=>by
  obtain⟨f1,f2,f3,f4⟩:=HG.o.fit r hr
  obtain⟨k,hk⟩:∃ k:Nat,r.1=(k:Int):=⟨r.1.toNat,by omega⟩
  have:=xJ w2.heap.size w3.heap.size n (w.heap.size+1) s k r.2 A qq cc wx hs (by have:=HL.o.1;omega) hq (fun x hx=>by have:=(f4 x hx).1;have:=HL.o.1;omega) Mi Sc (by omega)
  rw[<-hk] at this
  exact this)
 rw[<-HL.o.2.2] at hrd;have ru:=Lh hrd;clear hrd;refine ru.o.mono ?_;rintro e w6 ⟨rfl,hst,hgw⟩;have c6:=Vo hst.box;have Mg:=Lt (jb w (Uk g.2.2 n) (.returned (.slice (some ⟨w2.heap.size,0,none⟩) n n)) w6) (by
  have hlen:(Uk g.2.2 n).length=n:=hst.len
  have El:Rd w6 w6.heap.size (some ⟨w2.heap.size,0,none⟩) (Wj (Uk g.2.2 n)).toArray.toList:=Rd.row hst.row (gl hst.row)
  exact⟨some ⟨w2.heap.size,0,none⟩,n,by rw[hlen],El,(HBX.o.trans (HBA.o.mono (by omega))).trans (Ns hgw (Yg Sc) (by rw[HZ4.o];omega))⟩)
 clear hst hgw ru;go_wp2_with fail;go_ret;exact Mg.o
def Mq(m:Nat)(l:List Int):List Int:=(List.range m).map fun t:Nat=>((l.count (-1 - (t:Int)):Nat):Int)
theorem Sq(m:Nat)(l:List Int):(Mq m l).length=m:=by simp[Mq]
theorem gT{m:Nat}{l:List Int}{t:Nat}(h:t<m):(Mq m l)[t]? = some ((l.count (-1 - (t:Int)):Nat):Int):=by simp[Mq,h]
theorem qd{m:Nat}{l:List Int}{k:Nat}(h:k<m):(Mq m l).set k (((l.count (-1 - (k:Int)):Nat):Int)+1)=Mq m (l++[-1 - (k:Int)]):=by
 apply List.ext_getElem?;intro t;by_cases ht:t<m
 ·rw[gT ht,Xv];by_cases e:k=t
  ·subst e;rw[if_pos rfl,if_pos (by rw[Sq];exact h),List.count_append];simp
  ·rw[if_neg e,gT ht,List.count_append];have:((-1 - (k:Int))==-1 - (t:Int))=false:=by rw[Yo];omega
   rw[List.count_singleton,this];simp
 ·rw[Xf (by rw[Qm,Sq];omega),Xf (by rw[Sq];omega)]
theorem qg{m:Nat}{l:List Int}{s:Int}(h:0<=s):Mq m (l++[s])=Mq m l:=by
 unfold Mq;apply List.map_congr_left;intro t _;rw[List.count_append];rw[List.count_singleton];have:(s==-1 - (t:Int))=false:=by rw[Yo];omega
 rw[this];simp
def Rk(rs:Zu):List Int:=rs.flatMap (·.2)
theorem zm(rs:Zu){i:Nat}(h:i<rs.length):Rk (rs.take (i+1))=Rk (rs.take i)++rs[i].2:=by
 unfold Rk;rw[Qc h,List.flatMap_append];simp
theorem bc:∀(rs:Zu),(∀ r∈rs,r.2.length<=64)->(Rk rs).length<=64*rs.length
 |[],_=>by simp[Rk]
 |r::rs,h=>by
  have ih:=bc rs (fun r hr=>h r (by simp[hr]));have:=h r (by simp);unfold Rk at *;rw[List.flatMap_cons,Qe,Qu];omega
theorem uX(m:Nat)(rs:Zu):(Mq m (Rk rs)).contains 0=!(List.range m).all (Lk rs):=by
 rw[Bool.eq_iff_iff,List.contains_iff_mem,Bool.not_eq_true',<-Bool.not_eq_true,Xp];unfold Mq;rw[Xa];constructor
 ·rintro⟨t,ht,h⟩ Uc;have h1:=Uc t ht;unfold Lk at h1;rw[Xq] at h1;obtain⟨r,hr,h2⟩:=h1;rw[Xq] at h2;obtain⟨s,hs,h3⟩:=h2;have h3:=of_decide_eq_true h3;have h0:(Rk rs).count (-1 - (t:Int))=0:=by omega
  rw[List.count_eq_zero] at h0;exact h0 (by rw[<-h3];unfold Rk;exact Xu.2 ⟨r,hr,hs⟩)
 ·intro h;refine Classical.byContradiction fun hno=>h fun t ht=>?_;unfold Lk;rw[Xq];have:(Rk rs).count (-1 - (t:Int))≠0:=fun e=>hno ⟨t,ht,by omega⟩;have hm:=List.count_pos_iff.1 (Nat.pos_of_ne_zero this);obtain⟨r,hr,hs⟩:=Xu.1 hm;exact⟨r,hr,Xq.2 ⟨_,hs,by simp⟩⟩
theorem qbX{A1 A2 A3:Option Addr}{n m q c1 c2 c3:Nat}{g:Kc}(w:World)(h:Nb w w.heap.size A1 A2 A3 n m q c1 c2 c3 g)(hg:wI g) :
  Calls Tryz.prog 73 #[Ri A1 A2 A3 n m q c1 c2 c3] w fun e w'=>e=.returned (.bool ((List.range m).all (Lk g.2.2)))/\Below w.heap.size w w':=by
 have Mo:=(Xr w.heap.size w).alloc (Ya _) (.cells #[.slice A1 n c1,.slice A2 m c2,.slice A3 q c3] 25);have HK:=Lh (Xn w (.cells #[.slice A1 n c1,.slice A2 m c2,.slice A3 q c3] 25));have HZ:=Lh (Xs w (.cells #[.slice A1 n c1,.slice A2 m c2,.slice A3 q c3] 25));have HBX:=Lh Mo;have HG:=Lh hg;have HL:=Lh h.ln;have Dl:=Lh h.rules;have wN:=h.small;have HM2:=Lh (show m<=256 by have:=hg.nm;have:=h.ln.2.1;omega);have Nj:(w.alloc (.cells #[.slice A1 n c1,.slice A2 m c2,.slice A3 q c3] 25)).cell? ⟨w.heap.size,1,none⟩=some (.slice A2 m c2):=Xc HK.o rfl;have qL:=oc m (by have:=HM2.o;omega) (w.alloc (.cells #[.slice A1 n c1,.slice A2 m c2,.slice A3 q c3] 25));rw[show List.replicate m (Value.int .i64 0)=Kl (Mq m []) by
  unfold Kl Mq
  rw[List.map_map]
  apply List.ext_getElem
  ·simp
  ·intro i h1 h2;simp] at qL
 clear h hg Mo;go_enter Tryz.func73,Tryz.ntmps73;go_wp2_with fail;generalize w.alloc (.cells #[.slice A1 n c1,.slice A2 m c2,.slice A3 q c3] 25)=w1 at *;have Ib:w.heap.size<w1.heap.size:=by rw[HZ.o];omega
 obtain⟨gt,hgt⟩:=Xe (w.heap.size+1);have zpG:w1.heap.size=gt:=by rw[HZ.o,hgt]
 have HK2:=Lh (show (w1.alloc (.cells (Kl (Mq m [])).toArray 3)).heap[gt]? = some (.cells (Kl (Mq m [])).toArray 3 (0,0)) by rw[<-zpG];exact Xn w1 _);have HZ2:=Lh (Xs w1 (.cells (Kl (Mq m [])).toArray 3));have HB2:=Lh (HBX.o.trans (((Xr w1.heap.size w1).alloc (Ya _) (.cells (Kl (Mq m [])).toArray 3)).mono (by rw[HZ.o];omega)));clear Nj qL;generalize w1.alloc (.cells (Kl (Mq m [])).toArray 3)=w2 at *;rw[<-hgt];have HGT:=Lh hgt;clear hgt;go_loopw [15] (fun v15 wr=>∃ i:Nat,i<=q/\v15=.int .i64 i/\Hid (wr.heap[gt]? = some (.cells (Kl (Mq m (Rk (g.2.2.take i)))).toArray 3 (0,0)))/\Hid (w2.grownBy wr (some gt))) (fun v15 _=>q - (intOf v15).toNat);exact⟨0,by omega,rfl,HK2.o,World.grownBy.refl _ _⟩;clear HK2;obtain⟨i,hi,rfl,HK2,HGR⟩:=hrel;have HBN:=Lt (Below w.heap.size w wr) (HB2.o.trans (Ns HGR.o (by have:=HGT.o;omega) (by rw[HZ2.o];omega)));by_cases Ji:i<q
 ·have Wt:i<g.2.2.length:=by rw[<-HL.o.2.2];exact Ji
  obtain⟨b,off,cs,rfl,_,pM,Zx,Zm⟩:=(Dl.o.below HBN.o).get (k:=i) Wt (by decide);obtain⟨v,rfl,Mi,xP,pG⟩:=Kq Zx;obtain⟨A5,c5,rfl,Ic,kX⟩:=Mi.form;have Vh:=Zm 0 _ rfl;have Nj:=Zm 1 _ rfl;simp only[show Vv.size=2 from rfl,Yp,<-Yx] at Vh Nj;have HFT:=Lh (zm g.2.2 Wt);have ztT:=Lh (show (Rk (g.2.2.take (i+1))).length<=262144 by
   have:=bc (g.2.2.take (i+1)) (fun r hr=>(HG.o.fit r (List.mem_of_mem_take hr)).2.2.1)
   rw[Qq] at this
   have:=HG.o.q
   omega)
  have wH:=Lh (HG.o.fit _ (Qg Wt)).2.2.2;have zh:=(HG.o.fit _ (Qg Wt)).2.2.1;obtain⟨r,hr⟩:=Xe (g.2.2[i]);rw[<-hr] at Vh Nj HFT Mi xP pG Ic;rw[<-hr] at wH zh;obtain⟨ql,ou⟩:=Xe r.2.length;rw[<-ou] at Nj Mi Ic zh;have HQL:=Lh ou;have HSL:=Lh Mi;clear Zm Zx hr ou Mi Wt;go_wp2_with fail;have HB5:=Lh (World.grownBy_alloc wr (.cells #[.int .i64 r.1,.slice A5 ql c5] 63) (some gt));have HK5:=Lh (((Xr wr.heap.size wr).alloc (Ya _) (.cells #[.int .i64 r.1,.slice A5 ql c5] 63)).block gt (gl HK2.o));have HGR5:=Lh (HGR.o.trans HB5.o);have HK6:=Lh (HK5.o.trans HK2.o);generalize wr.alloc (.cells #[.int .i64 r.1,.slice A5 ql c5] 63)=w5 at *;go_loopw [22] (fun v22 wt=>∃ j:Nat,j<=ql/\v22=.int .i64 j/\Hid (wt.heap[gt]? = some (.cells (Kl (Mq m (Rk (g.2.2.take i)++r.2.take j))).toArray 3 (0,0)))/\Hid (w2.grownBy wt (some gt))) (fun v22 _=>ql - (intOf v22).toNat);exact⟨0,by omega,rfl,by rw[List.take_zero,List.append_nil];exact HK6.o,HGR5.o⟩;clear HK5 HK6 HGR5 HB5 HK2 HGR Vh Nj;obtain⟨j,hj,rfl,HK2,HGR⟩:=hrel;have HBT:=Lt (Below w.heap.size w wr) (HB2.o.trans (Ns HGR.o (by have:=HGT.o;omega) (by rw[HZ2.o];omega)));by_cases Mn:j<ql
  ·have qtE:j<r.2.length:=by rw[<-HQL.o];exact Mn
   have zeM:Je Wo wr w.heap.size (.slice A5 ql c5) r.2:=by
    have:=HSL.o;exact this.keep fun p hp=>(HBT.o.cell hp).trans (HBN.o.cell hp).symm
   obtain⟨b2,o2,cs,rfl,_,hbl2,Zx,Zm⟩:=zeM.get (k:=j) qtE (by decide);obtain⟨rfl,Pr,gM⟩:=Zx;have Vh:=Zm 0 _ rfl;simp only[show Wo.size=1 from rfl,Yr,Yp] at Vh;have HT:=Lh (Qc qtE);have hft:=wH.o _ (Qg qtE);have HLE:=Lh (show (Rk (g.2.2.take i)++r.2.take j).length<=262144 by
    have h1:=ztT.o
    rw[HFT.o,Qe] at h1
    rw[Qe,Qq]
    omega)
   obtain⟨s,hs⟩:=Xe (r.2[j]);rw[<-hs] at Vh Pr gM HT hft;obtain⟨pre,Bw⟩:=Xe (Rk (g.2.2.take i)++r.2.take j);rw[<-Bw] at HK2 HLE;have HPRE:=Lh (show Rk (g.2.2.take i)++r.2.take (j+1)=pre++[s] by rw[HT.o,Bw,Xd]);clear hs Zm Bw qtE zeM;by_cases oq:s<0
   ·have hd:decide (s<0)=true:=by simpa using oq
    obtain⟨k,hk⟩:∃ k:Nat,s=-1 - (k:Int):=⟨(-1 - s).toNat,by omega⟩;subst hk;have hkm:k<m:=by have:=HL.o.2.1;omega
    have Eu:k<(Mq m pre).length:=by rw[Sq];exact hkm
    have hcv:=Ia HK2.o Eu;have hcg:=gT (l:=pre) hkm;rw[Qa Eu] at hcg;injection hcg with hcg;rw[hcg] at hcv;have HST:=Lh (qd (l:=pre) hkm);have HCB:=List.count_le_length (a:=-1 - (k:Int)) (l:=pre);have HL2:=HLE.o;obtain⟨x,hx⟩:=Xe (pre.count (-1 - (k:Int)));rw[<-hx] at hcv HST HCB;have hxb:(x:Int)<=262144:=by omega
    have fK:wr.frozen? ⟨gt,k,none⟩=false:=by simp[World.frozen?,HK2.o]
    have he:-1 - (-1 - (k:Int))=k:=by omega
    have HSET:=Lh (oK HK2.o (k:=k) ((x:Int)+1));clear hcg hx Eu HL2 HCB;go_wp2_with fail;refine (Jd _ _).mono ?_;rintro e w5 ⟨rfl,rfl⟩;rw[hd];go_wp2_with fail;go_roundw;exact⟨j+1,by omega,by go_num,by rw[HPRE.o,<-HST.o];exact HSET.o,HGR.o.trans (dE _ gt k _)⟩;simp[intOf];omega
   ·have hd:decide (s<0)=false:=by simpa using oq
    have HCN:=Lh (qg (m:=m) (l:=pre) (s:=s) (by omega));go_wp2_with fail;refine (Jd _ _).mono ?_;rintro e w5 ⟨rfl,rfl⟩;rw[hd];go_wp2_with fail;go_roundw;exact⟨j+1,by omega,by go_num,by rw[HPRE.o,HCN.o];exact HK2.o,HGR.o⟩;simp[intOf];omega
  ·have HEND:=Lh (show Rk (g.2.2.take i)++r.2.take j=Rk (g.2.2.take (i+1)) by
    rw[HFT.o,Qd (l:=r.2) (by rw[<-HQL.o];omega)])
   rw[HEND.o] at HK2;go_wp2_with fail;go_roundw;exact⟨i+1,by omega,by go_num,HK2.o,HGR.o⟩;simp[intOf];omega
 ·have Cq:=Lt (g.2.2.take i=g.2.2) (Qd (by rw[<-HL.o.2.2];omega));rw[Cq.o] at HK2;have ztY:=Lh (show Calls Tryz.prog 136 #[.slice (some ⟨gt,0,none⟩) m m,.int .i64 0] wr fun e w'=>e=.returned (.bool (!(List.range m).all (Lk g.2.2)))/\w'=wr by
   rcases Nat.eq_zero_or_pos m with h0 | h0
   ·subst h0
    refine (Tryz.slices_Contains_int_empty (some ⟨gt,0,none⟩) 0 0 wr).mono ?_
    rintro e w' ⟨rfl,rfl⟩
    exact⟨by simp,rfl⟩
   ·have:=Tryz.slices_Contains_int gt 0 m m (Mq m (Rk g.2.2)) 0 wr (by rw[Sq];exact Ya _) (by have:=HM2.o;omega) (fun j hj=>by
     rw[Yq,Ia HK2.o hj,Qb,Qa hj]
     rfl)
    rw[Qd (by rw[Sq];exact Ya _),uX] at this
    exact this)
  go_wp2_with fail;refine ztY.o.mono ?_;rintro e w5 ⟨rfl,rfl⟩;go_wp2_with fail;go_ret;exact⟨Kx (Zv (by simp)),HBN.o⟩
def Kb(g:Kc):Int:=if Uj g then wellE g.1.length g.2.1.length g.2.2 else 1
theorem mY{A1 A2 A3:Option Addr}{n m q c1 c2 c3:Nat}{g:Kc}(w:World)(h:Nb w w.heap.size A1 A2 A3 n m q c1 c2 c3 g) :
  Calls Tryz.prog 28 #[Ri A1 A2 A3 n m q c1 c2 c3] w fun e w'=>e=.returned (.int .i64 (Kb g))/\Below w.heap.size w w':=by
 have Mo:=(Xr w.heap.size w).alloc (Ya _) (.cells #[.slice A1 n c1,.slice A2 m c2,.slice A3 q c3] 25);have HV:=Lh ((h.fut (B':=w.heap.size+1) Mo (Ya _) (by omega)));have HK:=Lh (Xn w (.cells #[.slice A1 n c1,.slice A2 m c2,.slice A3 q c3] 25));have HZ:=Lh (Xs w (.cells #[.slice A1 n c1,.slice A2 m c2,.slice A3 q c3] 25));have HBX:=Lh Mo;have HL:=Lh h.ln;clear h Mo;have HSTEP:Hid (∀(w1 w2:World),Below (w.heap.size+1) w1 w2->Nb w1 (w.heap.size+1) A1 A2 A3 n m q c1 c2 c3 g->w.heap.size+1<=w2.heap.size->Nb w2 w2.heap.size A1 A2 A3 n m q c1 c2 c3 g):=fun w1 w2 hb hg hs=>hg.fut hb (Ya _) hs;have pB:Hid (∀(w2:World),w2.heap[w.heap.size]? = some (.cells #[.slice A1 n c1,.slice A2 m c2,.slice A3 q c3] 25 (0,0))->w2.cell? ⟨w.heap.size,0,none⟩=some (.slice A1 n c1)/\w2.cell? ⟨w.heap.size,1,none⟩=some (.slice A2 m c2)/\w2.cell? ⟨w.heap.size,2,none⟩=some (.slice A3 q c3)):=fun w2 hk=>⟨Xc hk rfl,Xc hk rfl,Xc hk rfl⟩;go_enter Tryz.func28,Tryz.ntmps28;go_wp2_with fail;generalize w.alloc (.cells #[.slice A1 n c1,.slice A2 m c2,.slice A3 q c3] 25)=w1 at *;refine (Nb.valid (w:=w1) (by rw[HZ.o];exact HV.o)).mono ?_;rintro e w2 ⟨rfl,Ja⟩;have HB2:=Lt (Below (w.heap.size+1) w1 w2) (Ja.mono (Yi HZ.o.symm));have HS2:=Lh (show w.heap.size+1<=w2.heap.size by have:=Ja.size;have:=HZ.o;omega);have HK2:=Lh ((HB2.o.block w.heap.size (by omega)).trans HK.o);clear Ja;cases hv:Uj g with
 |false =>
  have HC:=Lh (show Kb g=1 by unfold Kb;rw[hv];rfl);clear hv;go_wp2_with fail;go_ret;exact⟨Kx (Gu HC.o.symm),HBX.o.trans (HB2.o.mono (by omega))⟩
 |true =>
  have HVV:=Lh hv;have HC:=Lh (show Kb g=wellE n m g.2.2 by unfold Kb;rw[hv,HL.o.1,HL.o.2.1];rfl);obtain⟨a0,a1,a2⟩:=pB.o w2 HK2.o;clear hv;go_wp2_with fail;refine (sV w2 (HSTEP.o w1 w2 HB2.o HV.o HS2.o) HVV.o).mono ?_;rintro e w3 ⟨AP,cP,rfl,hrp,hb3⟩;have HB3:=Lh (HB2.o.trans (hb3.mono HS2.o));have HS3:=Lh (Yb HS2.o hb3.size);have lC:=Lh ((HB3.o.block w.heap.size (by omega)).trans HK.o);have O_:=Lh (show (Ko g.2.2 n).length=n by unfold Ko;rw[Tv jF,Qr]);have Ci:=Lh (show n<=256 by have:=(Wu HVV.o).nm;have:=HL.o.1;omega);have HCO:=Lh (fC AP cP (Ko g.2.2 n) w3 hrp (by rw[O_.o];have:=Ci.o;omega));rw[O_.o] at HCO |-;clear a0 a1 a2 hrp hb3;go_wp2_with fail;refine HCO.o.mono ?_;rintro e w4 ⟨rfl,rfl⟩;cases hp:(Ko g.2.2 n).all id with
  |false =>
   have HE:=Lh (show Kb g=18 by rw[HC.o];unfold wellE;rw[hp];rfl);clear hp HCO;go_wp2_with fail;go_ret;exact⟨Kx (Gu HE.o.symm),HBX.o.trans (HB3.o.mono (by omega))⟩
  |true =>
   have HE:=Lh (show Kb g=if (Uk g.2.2 n).all id&&(List.range m).all (Lk g.2.2) then 0 else 17 by rw[HC.o];unfold wellE;rw[hp];rfl)
   obtain⟨a0,a1,a2⟩:=pB.o w4 lC.o;clear hp HCO;go_wp2_with fail;refine (lp w4 (HSTEP.o w1 w4 HB3.o HV.o HS3.o) HVV.o).mono ?_;rintro e w5 ⟨AR,cR,rfl,pH,hb5⟩;have HB5:=Lh (HB3.o.trans (hb5.mono HS3.o));have wF:=Lh (Yb HS3.o hb5.size);have HK5:=Lh ((HB5.o.block w.heap.size (by omega)).trans HK.o);have HRL:=Lh (show (Uk g.2.2 n).length=n by
    unfold Uk
    rw[Tv (f:=Wh) (fun P r=>by
     unfold Wh
     have:∀(l:List Int)(R:List Bool),(l.foldl (fun R s=>Jq R r.1 s) R).length=R.length:=by
      intro l
      induction l with
      |nil=>intro R;rfl
      |cons s l ih=>intro R;rw[List.foldl_cons,ih,dm]
     exact this _ _),Qm,Qr])
   have HCO:=Lh (fC AR cR (Uk g.2.2 n) w5 pH (by rw[HRL.o];have:=Ci.o;omega));rw[HRL.o] at HCO |-;clear a0 a1 a2 pH hb5;go_wp2_with fail;refine HCO.o.mono ?_;rintro e w6 ⟨rfl,rfl⟩;cases hr:(Uk g.2.2 n).all id with
   |false =>
    have b_:=Lh (show Kb g=17 by rw[HE.o,hr];rfl);clear hr HCO HE;go_wp2_with fail;go_ret;exact⟨Kx (Gu b_.o.symm),HBX.o.trans (HB5.o.mono (by omega))⟩
   |true =>
    have b_:=Lh (show Kb g=if (List.range m).all (Lk g.2.2) then 0 else 17 by rw[HE.o,hr];rfl)
    obtain⟨a0,a1,a2⟩:=pB.o w6 HK5.o;clear hr HCO HE;go_wp2_with fail;refine (qbX w6 (HSTEP.o w1 w6 HB5.o HV.o wF.o) (Wu HVV.o)).mono ?_;rintro e w7 ⟨rfl,Ae⟩;have HB7:=Lh (HB5.o.trans (Ae.mono wF.o));cases hu:(List.range m).all (Lk g.2.2) with
    |false =>
     have HE3:=Lh (show Kb g=17 by rw[b_.o,hu];rfl);clear hu b_ Ae;go_wp2_with fail;go_ret;exact⟨Kx (Gu HE3.o.symm),HBX.o.trans (HB7.o.mono (by omega))⟩
    |true =>
     have HE3:=Lh (show Kb g=0 by rw[b_.o,hu];rfl);clear hu b_ Ae;go_wp2_with fail;go_ret;exact⟨Kx (Gu HE3.o.symm),HBX.o.trans (HB7.o.mono (by omega))⟩
end Go.Proofs.YtmaojnmnbpomeaaGreatDoor
