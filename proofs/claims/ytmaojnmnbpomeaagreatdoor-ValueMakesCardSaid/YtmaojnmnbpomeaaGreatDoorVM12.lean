/- A part. -/
import Derived.Test.YtmaojnmnbpomeaaGreatDoorVM11
import Derived.RangeFuncNested
import Derived.RangeFuncBound
set_option maxRecDepth 100000
set_option maxHeartbeats 64000000
namespace Go.Proofs.YtmaojnmnbpomeaaGreatDoor
open Go.RowKit
theorem qgE:Dc Tryz.prog 32 85 4 40 (.agg #[.int .i64 0,.string ⟨#[]⟩,.int .i64 0,.int .i64 0]):=Gq (by kernel_rfl) (by kernel_rfl) rfl (by omega)
abbrev clc(x:Wf):List Value:=[.int .i64 x.1,wv x.2.1,.int .i64 x.2.2.1,.int .i64 x.2.2.2]
def Px(xs:List Wf):List Value:=(xs.map clc).flatten
theorem qs(xs:List Wf)(x:Wf):Px (xs++[x])=Px xs++clc x:=by simp[Px]
def Cd(left:Int)(sets:Zw)(s:List Wf)(p:Nat×Nat):List Wf:=s++Ho left sets p.1 p.2
def z_(left:Int)(a b:Nat):Option Wd->List Wf
 |none=>[]
 |some w=>[(left,w,(a:Int),(b:Int))]
theorem qcV(left:Int)(sets:Zw)(a b:Nat):Ho left sets a b=z_ left a b (Dh (sets.getD a []) (sets.getD b [])):=by
 unfold Ho z_;cases Dh (sets.getD a []) (sets.getD b []) <;> rfl
theorem qjW(left:Int)(sets:Zw)(a b:Nat):(Ho left sets a b).length<=1:=by
 unfold Ho;split <;> simp
theorem bQ(left:Int)(sets:Zw):∀(l:List (Nat×Nat))(s:List Wf),l.foldl (Cd left sets) s=s++l.flatMap fun p=>Ho left sets p.1 p.2
 |[],s=>by simp
 |p::l,s=>by rw[List.foldl_cons,bQ left sets l];simp[Cd]
theorem gV(left:Int)(sets:Zw):∀(l:List (Nat×Nat))(s:List Wf),(l.foldl (Cd left sets) s).length<=s.length+l.length
 |[],s=>by simp
 |p::l,s=>by
  rw[List.foldl_cons];have h1:=gV left sets l (Cd left sets s p);have h2:=qjW left sets p.1 p.2;simp only[Cd,Qe,Qu] at h1 |-;omega
theorem lU:∀ l:List Nat,(Us l).length<=l.length*l.length
 |[]=>by simp[Us]
 |a::l=>by
  have:=lU l;simp only[Us,Qe,Qk,Qu,Nat.mul_add,Nat.add_mul];omega
theorem lV(left:Int)(sets:Zw):∀ l:List Nat,((Us l).flatMap fun p=>Ho left sets p.1 p.2)=Bo left sets l
 |[]=>rfl
 |a::l=>by
  simp only[Us,List.flatMap_append,Bo,lV left sets l,List.flatMap_map]
structure qhH(N0 GS GO GL:Nat)(A:Option Addr)(ns c:Nat)(left:Int)(sets:Zw)(s:List Wf)(w:World):Prop where
 hs:w.heap[GS]? = some (.cells #[.slice A ns c] 76 (0,0))
 hl:w.heap[GL]? = some (.cells #[.int .i64 left] 3 (0,0))
 ho:∃ v,w.heap[GO]? = some (.cells #[v] 32 (0,0))/\w.ownsRow N0 85 4 v s.length (Px s)
 sl:Je (Th eW) w N0 (.slice A ns c) sets
 hN:N0<=w.heap.size
 hO:N0<=GO
theorem qhH.below{N0 GS GO GL:Nat}{A:Option Addr}{ns c:Nat}{left:Int}{sets:Zw}{s:List Wf}{w w':World}(h:qhH N0 GS GO GL A ns c left sets s w)(hb:Below w.heap.size w w'):qhH N0 GS GO GL A ns c left sets s w':=by
 obtain⟨v,h1,h2⟩:=h.ho;have l1:=(gl h.hs);have l2:=(gl h.hl);have l3:=(gl h1);exact⟨(hb.block _ l1).trans h.hs,(hb.block _ l2).trans h.hl,⟨v,(hb.block _ l3).trans h1,Zy h2 hb⟩,h.sl.below (hb.mono h.hN),Yb h.hN hb.size,h.hO⟩
theorem zx{N0 GS GO GL:Nat}{A:Option Addr}{ns c:Nat}{left:Int}{sets:Zw}{s:List Wf}{a b:Nat}(w:World)(h:qhH N0 GS GO GL A ns c left sets s w)(aq:s.length<=1099511627776)(ha:a<ns)(hb:b<ns)(Ek:∀ x∈sets,x.length<=1048576) :
  Calls Tryz.prog 93 #[.int .i64 a,.int .i64 b,.pointer (some ⟨GS,0,none⟩),.pointer (some ⟨GO,0,none⟩),.pointer (some ⟨GL,0,none⟩)] w fun e w'=>e=.returned (.tuple #[])/\qhH N0 GS GO GL A ns c left sets (Cd left sets s (a,b)) w'/\aF N0 w w':=by
 obtain⟨v,h1,h2⟩:=h.ho;have cS:=Vo h.hs;have cL:=Vo h.hl;have cO:=Vo h1;have HN:=h.sl.n_eq;have Or:a<sets.length:=by omega
 have pM:b<sets.length:=by omega
 obtain⟨b1,o1,cs1,rfl,_,hb1,Fm,Kt⟩:=h.sl.get Or (by decide);obtain⟨v1,rfl,iF⟩:=Fm;have x1:=Kt 0 _ rfl;obtain⟨b2,o2,cs2,qN,_,Ja,Mz,Jr⟩:=h.sl.get pM (by decide);obtain⟨v2,rfl,oM⟩:=Mz;injection qN with qN;injection qN with e1 e2;subst e1 e2;have x2:=Jr 0 _ rfl;simp only[show (Th eW).size=1 from rfl,Yr,Yp] at x1 x2;have HP:=Lh (show Cd left sets s (a,b)=s++z_ left a b (Dh sets[a] sets[b]) by
  unfold Cd
  rw[qcV]
  simp only[Qb,Qa Or,Qa pM,Option.getD_some])
 have z1:=Ek _ (Qg Or);have z2:=Ek _ (Qg pM);obtain⟨p1,hp1⟩:=Xe (sets[a]);obtain⟨p2,hp2⟩:=Xe (sets[b]);rw[<-hp1] at HP iF z1;rw[<-hp2] at HP oM z2;obtain⟨A3,c3,rfl,_,_⟩:=iF.form;obtain⟨A4,c4,rfl,_,_⟩:=oM.form;have Bf:=Lh iF;have aK:=Lh oM;have HH:=Lh h;have HO:=Lh h2;have HZ1:=Lh z1;have HZ2:=Lh z2;have qV:=Lh h.hN;clear hp1 hp2 iF oM h h2 Kt Jr Ek Or pM z1 z2;go_enter Tryz.func93,Tryz.ntmps93;go_wp2_with fail;refine Text.wt (by kernel_rfl) fun Q' hQ'=>?_;go_wp2_with fail;have HW:=Lh (((Xr w.heap.size w).alloc (Ya _) (.cells #[.slice A3 p1.length c3,.slice A4 p2.length c4] 22)).drew);have HK:=Lt ((w.alloc (.cells #[.slice A3 p1.length c3,.slice A4 p2.length c4] 22)).drew.heap[w.heap.size]? = _) (Xn w (.cells #[.slice A3 p1.length c3,.slice A4 p2.length c4] 22));have HS2:=Lt ((w.alloc (.cells #[.slice A3 p1.length c3,.slice A4 p2.length c4] 22)).drew.heap.size=w.heap.size+1) (Xs w _);generalize (w.alloc (.cells #[.slice A3 p1.length c3,.slice A4 p2.length c4] 22)).drew=w2 at *;refine (zw w.heap.size A3 A4 c3 c4 p1 p2 w2 (Xc HK.o rfl) (Xc HK.o rfl) (Bf.o.fut (HW.o.mono qV.o) (Ya _) (by rw[HS2.o];have:=qV.o;omega)) (aK.o.fut (HW.o.mono qV.o) (Ya _) (by rw[HS2.o];have:=qV.o;omega)) HZ1.o HZ2.o).mono ?_;rintro e w5 ⟨hb5,jN⟩;have HB5:=Lh (HW.o.trans (hb5.mono (by rw[HS2.o];omega)));have H5:=Lh (HH.o.below HB5.o);have HC5:=Lh (aF.of_below HB5.o qV.o);cases hco:Dh p1 p2 with
 |none =>
  rw[hco] at jN HP;simp only at jN;subst jN;have HP2:=Lh (show Cd left sets s (a,b)=s by rw[HP.o];simp[z_]);clear hco hb5;go_wp2_with fail;refine⟨by rfl,?_⟩;go_wp2_with fail
  go_end0
  exact⟨rfl,by rw[HP2.o];exact H5.o,HC5.o⟩
 |some x =>
  rw[hco] at jN HP;simp only at jN;subst jN;have HP2:=Lh (show Cd left sets s (a,b)=s++[(left,x,(a:Int),(b:Int))] by rw[HP.o];rfl);obtain⟨l1,l2,l3⟩:GS<w.heap.size/\GL<w.heap.size/\GO<w.heap.size:=⟨(gl HH.o.hs),(gl HH.o.hl),(gl h1)⟩;have HO5:=Lh (Zy HO.o HB5.o);have HG5:=Lh ((HB5.o.block _ l3).trans h1);have HN5:=Lh (Yb qV.o HB5.o.size);clear hco hb5 cS cO cL x1 x2 l1 l2 l3 h1;have cO:=Vo HG5.o;have cL:=Vo H5.o.hl;go_wp2_with fail;refine⟨by rfl,?_⟩;go_wp2_with (at_builtin;refine Zz (m:=1) (n:=s.length) qgE rfl rfl rfl rfl (HO5.o.alloc _) (Rd.row (B:=w5.heap.size+1) (Xn w5 _) (by omega)) rfl (by simp[Value.oneCell']) (by unfold maxLen;omega) (by omega) (by rw[Xs];have:=HN5.o;omega) ?_);intro v' w7 ho7 Ta hv7 _;have HT7:=Lh (show ∀(g:Nat)(cs:Array Value)(t:TypeId)(fr:Nat×Nat),w5.heap[g]? = some (.cells cs t fr)->t≠85->w7.heap[g]? = some (.cells cs t fr) from fun g cs t fr hg ht=>by
   refine Zq (HO5.o.alloc _) Ta ?_ ht
   rw[Ze _ _ _ (gl hg)]
   exact hg)
  have HG7:=Lh (HT7.o _ _ _ _ HG5.o (by decide));have HB7:=Lt (Below N0 w5 w7) (Zt (((Xr w5.heap.size w5).mono HN5.o).alloc HN5.o (.cells (clc (left,x,(a:Int),(b:Int))).toArray 85)) Ta (HO5.o.alloc _) (Ya _) (by rw[Xs];have:=HN5.o;omega));have HS7:=Lh (show w5.heap.size<=w7.heap.size by have:=Ta.size;rw[Xs] at this;omega);obtain⟨A7,c7,rfl,h71,h72⟩:=Zo ho7;have HO7:=Lh ho7;have cO7:=Vo HG7.o;have fO:w7.frozen? ⟨GO,0,none⟩=false:=by simp[World.frozen?,HG7.o]
  clear ho7 Ta hv7 cO cL;go_wp2_with fail
  go_end0
  have hgo:N0<=GO:=HH.o.hO;have HT8:∀(g:Nat)(cs:Array Value)(t:TypeId)(fr:Nat×Nat),w5.heap[g]? = some (.cells cs t fr)->t≠85->t≠32->(w7.setCell ⟨GO,0,none⟩ (.slice A7 (s.length+1) c7)).heap[g]? = some (.cells cs t fr):=fun g cs t fr hg ht ht2=>by
   rw[Zd _ _ _ _ (fun e=>ht2 ?_)]
   ·exact HT7.o g cs t fr hg ht
   ·have e2:g=GO:=e;rw[e2,HG5.o] at hg;injection hg with hg;injection hg with _ hg;exact hg.symm
  have HB8:Below N0 w5 (w7.setCell ⟨GO,0,none⟩ (.slice A7 (s.length+1) c7)):=HB7.o.setCell (p:=⟨GO,0,none⟩) hgo _;have hz8:w5.heap.size<=(w7.setCell ⟨GO,0,none⟩ (.slice A7 (s.length+1) c7)).heap.size:=by have:=HS7.o;simp[World.setCell];omega
  have We:(w7.setCell ⟨GO,0,none⟩ (.slice A7 (s.length+1) c7)).heap[GO]? = some (.cells #[.slice A7 (s.length+1) c7] 32 (0,0)):=by
   simp only[World.setCell,Xy,if_true,HG7.o,Option.map_some];rfl
  have hown:(w7.setCell ⟨GO,0,none⟩ (.slice A7 (s.length+1) c7)).ownsRow N0 85 4 (.slice A7 (s.length+1) c7) (s.length+1) (Px s++clc (left,x,(a:Int),(b:Int))):=World.ownsRow.kept HO7.o (dE w7 GO 0 _) (.inr (tB HO7.o HG7.o (by decide)));refine⟨rfl,?_,HC5.o.trans ⟨HB8,hz8,HT8⟩⟩;refine⟨HT8 _ _ _ _ H5.o.hs (by decide) (by decide),HT8 _ _ _ _ H5.o.hl (by decide) (by decide),⟨_,We,?_⟩,H5.o.sl.below HB8,Yb HN5.o hz8,hgo⟩;rw[HP2.o,Qe,qs];exact hown
def Al(rs:Zu)(sets:Zw)(i:Nat):List Wf:=(List.range i).flatMap fun left:Nat=>Bo (left:Int) sets (Wc rs left)
theorem jZ(rs:Zu)(sets:Zw)(i:Nat):Al rs sets (i+1)=Al rs sets i++Bo (i:Int) sets (Wc rs i):=by
 unfold Al;rw[List.range_succ,List.flatMap_append];simp
theorem qcU(left:Int)(sets:Zw)(l:List Nat):(Bo left sets l).length<=l.length*l.length:=by
 rw[<-lV];refine Yb ?_ (lU l);have:=gV left sets (Us l) [];rw[bQ] at this;simpa using this
theorem sH(rs:Zu)(left:Int):(Wc rs left).length<=rs.length:=by
 unfold Wc;refine Yb (List.length_filter_le _ _) ?_;simp
theorem vB(rs:Zu)(sets:Zw)(hq:rs.length<=4096):∀ i,(Al rs sets i).length<=i*16777216
 |0=>by simp[Al]
 |i+1=>by
  rw[jZ,Qe];have h1:=vB rs sets hq i;have h2:=qcU (i:Int) sets (Wc rs i);have h3:=sH rs (i:Int);have h4:(Wc rs (i:Int)).length*(Wc rs (i:Int)).length<=4096*4096:=Nat.mul_le_mul (by omega) (by omega);omega
theorem zfY(w:World)(a b c:Obj):(((w.alloc a).alloc b).alloc c).heap[w.heap.size]? = some a/\(((w.alloc a).alloc b).alloc c).heap[w.heap.size+1]? = some b/\(((w.alloc a).alloc b).alloc c).heap[w.heap.size+1+1]? = some c:=by
 refine⟨?_,?_,?_⟩
 ·rw[Ze _ _ _ (by simp;omega),Ze _ _ _ (by simp)];exact Xn w a
 ·rw[Ze _ _ _ (by simp)];exact Fu w a b
 ·have:=Fu (w.alloc a) b c
  rwa [Xs] at this
theorem qm{A1 A2 A3 A:Option Addr}{n m q c1 c2 c3 c:Nat}{g:Kc}{sets:Zw}(w:World)(h:Nb w w.heap.size A1 A2 A3 n m q c1 c2 c3 g)(hg:wI g)(hs:Je (Th eW) w w.heap.size (.slice A q c) sets)(Ek:∀ x∈sets,x.length<=1048576) :
  Calls Tryz.prog 40 #[Ri A1 A2 A3 n m q c1 c2 c3,.slice A q c] w fun e w'=>∃ v,e=.returned v/\w'.ownsRow w.heap.size 85 4 v (Mr g.2.2 n sets).length (Px (Mr g.2.2 n sets))/\Below w.heap.size w w':=by
 have HG:=Lh h;have HS:=Lh hs;have pY:=Lh Ek;have wN:=h.small;have Ci:=Lh (show n<=256 by have:=hg.nm;have:=h.ln.1;omega);have HTL:=Lh (vB g.2.2 sets hg.q);have HRL:=Lt (∀ left:Int,(Wc g.2.2 left).length<=4096) (fun left=>Yb (sH _ _) hg.q);have HRQ:=Lh (show ∀(left:Int)(a:Nat),a∈Wc g.2.2 left->a<q from fun left a ha=>by
  obtain⟨r,hr,_⟩:=Td.1 ha
  have:=(Qj.1 hr).1
  have:=h.ln.2.2
  omega)
 clear h hs Ek hg;go_enter Tryz.func40,Tryz.ntmps40;go_wp2_with fail;obtain⟨k1,k2,k3⟩:=zfY w (.cells #[.slice A1 n c1,.slice A2 m c2,.slice A3 q c3] 25) (.cells #[.slice A q c] 76) (.cells #[.slice none 0 0] 32);have hb1:Below w.heap.size w (((w.alloc (.cells #[.slice A1 n c1,.slice A2 m c2,.slice A3 q c3] 25)).alloc (.cells #[.slice A q c] 76)).alloc (.cells #[.slice none 0 0] 32)):=by go_grown
 have Ib:(((w.alloc (.cells #[.slice A1 n c1,.slice A2 m c2,.slice A3 q c3] 25)).alloc (.cells #[.slice A q c] 76)).alloc (.cells #[.slice none 0 0] 32)).heap.size=w.heap.size+3:=by rw[Xs,Xs,Xs]
 generalize ((w.alloc (.cells #[.slice A1 n c1,.slice A2 m c2,.slice A3 q c3] 25)).alloc (.cells #[.slice A q c] 76)).alloc (.cells #[.slice none 0 0] 32)=w1 at *;have K1:=Lh k1;have K2:=Lh k2;have K3:=Lh k3;have HB1:=Lh hb1;clear k1 k2 k3 hb1 Ib;go_loopg [16] n (fun lft ju wr=>∃ i:Nat,i<=n/\n - i<=lft/\ju=.int .i64 i/\Hid (Below w.heap.size w wr)/\Hid (wr.heap[w.heap.size]? = some (.cells #[.slice A1 n c1,.slice A2 m c2,.slice A3 q c3] 25 (0,0)))/\Hid (wr.heap[w.heap.size+1]? = some (.cells #[.slice A q c] 76 (0,0))) /\
  Hid (∃ v,wr.heap[w.heap.size+1+1]? = some (.cells #[v] 32 (0,0))/\wr.ownsRow w.heap.size 85 4 v (Al g.2.2 sets i).length (Px (Al g.2.2 sets i))))
 exact⟨0,by omega,by omega,rfl,HB1.o,K1.o,K2.o,_,K3.o,Yz _ _ _ _⟩;clear K1 K2 K3 HB1;obtain⟨i,hi,oy,rfl,HB,K1,K2,HO⟩:=hrel;obtain⟨vo,K3',HO'⟩:=HO.o;have K3:=Lh K3';have HOW:=Lh HO';have hle:=HB.o.size;have lK1:=(gl K1.o);have lK2:=(gl K2.o);have lK3:=(gl K3.o);obtain⟨a0,a1,a2⟩:wr.cell? ⟨w.heap.size,0,none⟩=some (.slice A1 n c1)/\wr.cell? ⟨w.heap.size,1,none⟩=some (.slice A2 m c2)/\wr.cell? ⟨w.heap.size,2,none⟩=some (.slice A3 q c3):=⟨Xc K1.o rfl,Xc K1.o rfl,Xc K1.o rfl⟩;have cO:=Vo K3.o;clear HO K3' HO';by_cases Ua:i<n
 ·have HTS:=Lh (jZ g.2.2 sets i);have HTI:=Lh (HTL.o i);go_wp2_with fail;have Ja:=(Xr wr.heap.size wr).alloc (Ya _) (.cells #[.int .i64 (i:Int)] 3);have HB2:=Lh Ja;have HZ2:=Lh (Xs wr (.cells #[.int .i64 (i:Int)] 3));have HL2:=Lh (Xn wr (.cells #[.int .i64 (i:Int)] 3));have HO2:=Lh (HOW.o.alloc (.cells #[.int .i64 (i:Int)] 3));have HK2:=Lh ((Ja.block _ lK2).trans K2.o);have lC:=Lh ((Ja.block _ lK3).trans K3.o);have HK1:=Lh ((Ja.block _ lK1).trans K1.o);clear Ja a0 a1 a2 cO K1 K2 K3 HOW;generalize wr.alloc (.cells #[.int .i64 (i:Int)] 3)=w2 at *;have HBW:=Lh (HB.o.trans (HB2.o.mono hle));refine (qcT (N0:=w.heap.size) 93 #[.pointer (some ⟨w.heap.size+1,0,none⟩),.pointer (some ⟨w.heap.size+1+1,0,none⟩),.pointer (some ⟨wr.heap.size,0,none⟩)] (fun args w=>by kernel_rfl) (Cd (i:Int) sets)
   (qhH w.heap.size (w.heap.size+1) (w.heap.size+1+1) wr.heap.size A q c (i:Int) sets) (i:Int) (Al g.2.2 sets i) w2 (HG.o.fut HBW.o (Ya _) (by rw[HZ2.o];omega)) (by rw[HZ2.o];omega) (fun s w1 w2 h hb=>h.below hb) ?_ ?_).mono ?_
  ·exact⟨HK2.o,HL2.o,⟨vo,lC.o,HO2.o⟩,HS.o.below HBW.o,by rw[HZ2.o];omega,by omega⟩
  ·intro pre post wq a b hp ha hb hI _;have h1:=gV (i:Int) sets pre (Al g.2.2 sets i);have h2:=lU (Wc g.2.2 (i:Int));have h3:=HRL.o (i:Int);have h4:(Wc g.2.2 (i:Int)).length*(Wc g.2.2 (i:Int)).length<=4096*4096:=Nat.mul_le_mul h3 h3;have h5:pre.length<=(Us (Wc g.2.2 (i:Int))).length:=by rw[hp];simp
   have h6:=HTI.o;have h7:=Ci.o;exact zx wq hI (by omega) (HRQ.o _ _ ha) (HRQ.o _ _ hb) pY.o
  ·rintro e w5 ⟨rfl,hI,hC⟩;rw[bQ,lV,<-HTS.o] at hI;have H5:=Lh hI;have HC5:=Lh hC;clear hI hC;go_wp2_with fail;go_roundg (gk - 1);exact⟨i+1,by omega,by omega,by go_num,HBW.o.trans HC5.o.below,HC5.o.typed _ _ _ _ HK1.o (by decide) (by decide),H5.o.hs,H5.o.ho⟩;omega
 ·have zpF:i=n:=by omega
  subst zpF;go_wp2_with fail;go_ret;exact⟨_,rfl,HOW.o,HB.o⟩
theorem gZ{k:Nat}(hk:k<=4){g:Kc}{s:Zw}(h:Lf (k:Int) g (some s)):s.length=g.2.2.length/\Dr s:=by
 obtain⟨o1,_,h2⟩:=h;cases o1 with
 |none=>cases h2
 |some s1 =>
  obtain⟨o2,_,h3⟩:=h2;cases o2 with
  |none=>cases h3
  |some f =>
   obtain⟨c1,c2⟩:=iA g.2.2 s h3.symm;refine⟨c1,fun i x hx=>?_⟩;have hi:=(Qj.1 hx).1;obtain⟨y,hy,hb⟩:=c2 i _ (Qa (by omega));rw[hx] at hy;injection hy with hy;subst hy;exact nC hk hb
def Gb(rs:Zu)(ss:Zw)(i:Nat):List Ud:=(ss.getD i []).map fun w=>((rs.getD i (0,[])).1,w,(i:Int))
def Np(rs:Zu)(ss:Zw)(i:Nat):List Ud:=(List.range i).flatMap (Gb rs ss)
theorem nV(rs:Zu)(ss:Zw)(i:Nat):Np rs ss (i+1)=Np rs ss i++Gb rs ss i:=by
 unfold Np;rw[List.range_succ,List.flatMap_append];simp
theorem nW:∀(i:Nat)(rs:Zu)(ss:Zw),ss.length=rs.length->Ve i rs ss=(List.range rs.length).flatMap fun j=>(ss.getD j []).map fun w=>((rs.getD j (0,[])).1,w,((i+j:Nat):Int))
 |i,[],[],_=>rfl
 |i,r::rs,s::ss,h=>by
  have ih:=nW (i+1) rs ss (by simpa using h);rw[Qu,List.range_succ_eq_map,List.flatMap_cons,List.flatMap_map];simp only[Ve,ih];congr 1;congr 1
  funext j
  simp only[List.getD_cons_succ];congr 1
  funext w
  congr 2;omega
theorem sK{rs:Zu}{ss:Zw}(h:ss.length=rs.length):Np rs ss rs.length=Ve 0 rs ss:=by
 rw[nW 0 rs ss h];unfold Np Gb;simp
theorem ub{rs:Zu}{ss:Zw}(hb:Dr ss)(i:Nat):(Gb rs ss i).length<=4096:=by
 unfold Gb;rw[Qk,Qb];cases h:ss[i]? with
 |none=>simp
 |some x=>exact (hb i x h).2
theorem Pc{rs:Zu}{ss:Zw}(hb:Dr ss):∀ i,(Np rs ss i).length<=i*4096
 |0=>by simp[Np]
 |i+1=>by
  rw[nV,Qe];have:=Pc (rs:=rs) hb i;have:=ub (rs:=rs) hb i;omega
def quE(n:Nat)(g:Kc)(base:Nat)(w':World)(o:Option Zw)(e:Ending):Prop :=
 match o with
 |none=>e=.returned (.tuple #[.slice none 0 0,.slice none 0 0,.int .i64 21])
 |some s=>(Mr g.2.2 n s≠[]/\∃ v,e=.returned (.tuple #[.slice none 0 0,v,.int .i64 20])/\w'.ownsRow base 85 4 v (Mr g.2.2 n s).length (Px (Mr g.2.2 n s))) \/
  (Mr g.2.2 n s=[]/\∃ v rows,e=.returned (.tuple #[v,.slice none 0 0,.int .i64 0])/\rows.Perm (Ve 0 g.2.2 s)/\rows.Pairwise (fun a b=>¬ Md b a)/\w'.ownsRow base 81 3 v rows.length (Wk rows))
def quD(k:Int)(g:Kc)(n:Nat)(w:World)(e:Ending)(w':World):Prop :=
 Below w.heap.size w w'/\(Cr k g->e=.returned (.tuple #[.slice none 0 0,.slice none 0 0,.int .i64 1]))/\(¬ Cr k g->∃ o,Lf k g o/\quE n g w.heap.size w' o e)
theorem qkR{A1 A2 A3:Option Addr}{n m q c1 c2 c3:Nat}{g:Kc}(k:Int)(w:World)(h:Nb w w.heap.size A1 A2 A3 n m q c1 c2 c3 g) :
  Calls Tryz.prog 13 #[Ri A1 A2 A3 n m q c1 c2 c3,.int .i64 k] w (quD k g n w):=by
 have Mo:=(Xr w.heap.size w).alloc (Ya _) (.cells #[.slice A1 n c1,.slice A2 m c2,.slice A3 q c3] 25);have HV:=Lh (h.fut (B':=w.heap.size) Mo (Ya _) (Ya _));have HK:=Lh (Xn w (.cells #[.slice A1 n c1,.slice A2 m c2,.slice A3 q c3] 25));have HZ:=Lh (Xs w (.cells #[.slice A1 n c1,.slice A2 m c2,.slice A3 q c3] 25));have HBX:=Lh Mo;have HL:=Lh h.ln;have wN:=h.small;have pB:Hid (∀(w2:World),w2.heap[w.heap.size]? = some (.cells #[.slice A1 n c1,.slice A2 m c2,.slice A3 q c3] 25 (0,0))->w2.cell? ⟨w.heap.size,0,none⟩=some (.slice A1 n c1)/\w2.cell? ⟨w.heap.size,1,none⟩=some (.slice A2 m c2)/\w2.cell? ⟨w.heap.size,2,none⟩=some (.slice A3 q c3)):=fun w2 hk=>⟨Xc hk rfl,Xc hk rfl,Xc hk rfl⟩;clear h Mo;go_enter Tryz.func13,Tryz.ntmps13;go_wp2_with fail;generalize w.alloc (.cells #[.slice A1 n c1,.slice A2 m c2,.slice A3 q c3] 25)=w1 at *;refine (xZ k w1 (HV.o.fut (N:=w1.heap.size) (B':=w1.heap.size) (Xr _ _) (by rw[HZ.o];omega) (by rw[HZ.o];omega))).mono ?_;rintro e w2 ⟨Ja,uC,hgood⟩;have HB2:=Lh (HBX.o.trans (Ja.mono (by rw[HZ.o];omega)));have HB12:=Lt (Below (w.heap.size+1) w1 w2) (Ja.mono (Yi HZ.o.symm));have HS2:=Lh (show w.heap.size+1<=w2.heap.size by have:=Ja.size;rw[HZ.o] at this;exact this);have HK2:=Lh ((HB12.o.block w.heap.size (by omega)).trans HK.o);clear Ja;by_cases kZ:Cr k g
 ·have:=uC kZ;subst this;have Rw:=Lh kZ;clear uC hgood kZ;go_wp2_with fail
  go_ret3
  exact⟨HB2.o,fun _=>rfl,fun h=>absurd Rw.o h⟩
 ·obtain⟨o,ho,It⟩:=hgood kZ;have nJ:=Lh kZ;have HO:=Lh ho;clear uC hgood;cases o with
  |none =>
   simp only[sg] at It;subst It;clear kZ ho;go_wp2_with fail
   go_ret3
   exact⟨HB2.o,fun h=>absurd h nJ.o,fun _=>⟨none,HO.o,rfl⟩⟩
  |some s =>
   obtain⟨A5,c5,rfl,hs⟩:=It;obtain⟨kk,hkk,yo,Iu⟩:∃ kk:Nat,k=(kk:Int)/\kk<=4/\1<=kk:=⟨k.toNat,by unfold Cr at kZ;omega,by unfold Cr at kZ;omega,by unfold Cr at kZ;omega⟩;have Ek:=gZ yo (g:=g) (s:=s) (by rw[<-hkk];exact ho);have hgood:wI g:=(If (Classical.byContradiction fun h=>kZ (.inr (.inr h)))).2.1;have kN:=Lh Ek.2;have hlen:s.length=q:=by rw[Ek.1];exact HL.o.2.2.symm
   have Nh:=Lh hlen;rw[hlen] at hs |-;have HSS:=Lh hs;have HQ:=Lh (show q<=4096 by have:=hgood.q;have:=HL.o.2.2;omega);have HCL:=Lh (qm w2 (HV.o.fut HB12.o (Yh _) (by have:=HS2.o;omega)) hgood hs (fun x hx=>by
    obtain⟨i,hi,rfl⟩:=Qz hx
    have:=(Ek.2 i _ (Qa hi)).2
    omega))
   clear kZ ho Ek hlen hs hgood hkk yo Iu;obtain⟨cl,Oa⟩:=Xe (Mr g.2.2 n s);rw[<-Oa] at HCL;have HC:=Lh Oa;clear Oa;obtain⟨nc,hnc⟩:=Xe cl.length;rw[<-hnc] at HCL;have HNC:=Lh hnc;clear hnc;obtain⟨a0,a1,a2⟩:=pB.o w2 HK2.o;go_wp2_with fail;refine HCL.o.mono ?_;rintro e w3 ⟨v,rfl,hown,hb3⟩;obtain⟨A6,c6,rfl,zpR,zpQ⟩:=Zo hown;have HB3:=Lh (HB2.o.trans (hb3.mono HB2.o.size));have HS3:=Lt (w2.heap.size<=w3.heap.size) (hb3.size);have lC:=Lh ((hb3.block w.heap.size (by have:=HS2.o;omega)).trans HK2.o);have zsC:=Lh (HSS.o.fut hb3 (Ya _) (Ya _));have wB:=Lh (HV.o.rules.fut (B':=w.heap.size) ((HB12.o.mono (Yh _)).trans (hb3.mono HB2.o.size)) (Ya _) (Ya _));have HOWN:=Lh (Fr hown HB2.o.size);clear hown hb3 a0 a1 a2 HCL;by_cases Vh:0<nc
   ·have hd:decide ((nc:Int)>0)=true:=by simpa using Vh
    have jQ:decide (0<nc)=true:=by simpa using Vh
    have HNE:=Lt (cl≠[]) (fun e=>by have:=HNC.o;rw[e] at this;simp at this;omega);clear Vh;go_wp2_with fail
    go_ret3
    refine⟨HB3.o,fun h=>absurd h nJ.o,fun _=>⟨some s,HO.o,.inl ⟨by rw[<-HC.o];exact HNE.o,_,rfl,?_⟩⟩⟩;rw[<-HC.o,<-HNC.o];exact HOWN.o
   ·have hd:decide ((nc:Int)>0)=false:=by simpa using Vh
    have jQ:decide (0<nc)=false:=by simpa using Vh
    have HNE:=Lt (cl=[]) (Xw (by have:=HNC.o;omega));clear Vh HOWN zpR zpQ;go_wp2_with fail;go_loopg [10,33] q (fun lft v10 v33 wr=>∃ i:Nat,i<=q/\q - i<=lft/\v33=.int .i64 i/\Hid (Below w3.heap.size w3 wr)/\Hid (wr.ownsRow w3.heap.size 81 3 v10 (Np g.2.2 s i).length (Wk (Np g.2.2 s i))));exact⟨0,by omega,by omega,rfl,Xr _ _,Yz _ _ _ _⟩;obtain⟨i,hi,oy,rfl,HB,HO10⟩:=hrel;obtain⟨gas,Gf⟩:=Xe gk;rw[<-Gf] at oy;have HGK:=Lh Gf;clear Gf;generalize wr=wo at *;by_cases hiq:i<q
    ·have his:i<s.length:=by rw[Nh.o];exact hiq
     have hir:i<g.2.2.length:=by rw[<-HL.o.2.2];exact hiq
     have HW3:=Lh (Yb HB2.o.size HS3.o);obtain⟨b1,o1,cs1,av,-,hb1,Fm,Kt⟩:=(zsC.o.below (HB.o.mono HS3.o)).get his (by decide);obtain⟨v1,rfl,iF⟩:=Fm;have x1:=Kt 0 _ rfl;simp only[show (Th eW).size=1 from rfl,Yr,Yp] at x1;subst av;obtain⟨b2,o2,cs2,qN,-,Ja,Mz,Jr⟩:=(wB.o.below (HB.o.mono HW3.o)).get hir (by decide);obtain⟨v2,rfl,-,-,-⟩:=Kq Mz;have y0:=Jr 0 _ rfl;simp only[show Vv.size=2 from rfl,Yp] at y0;subst qN;have HRA:=Lh (show Gb g.2.2 s i=s[i].map fun w=>(g.2.2[i].1,w,(i:Int)) by
      unfold Gb
      simp only[Qb,Qa his,Qa hir,Option.getD_some])
     have HNX:=Lh (kN.o i _ (Qa his)).2;have HTL:=Lh (Pc (rs:=g.2.2) kN.o i);have HTS:=Lh (nV g.2.2 s i);obtain⟨x,hx⟩:=Xe (s[i]);rw[<-hx] at iF HRA HNX;obtain⟨lf,hlf⟩:=Xe (g.2.2[i].1);rw[<-hlf] at y0 HRA;have HRX:=Lh (HB.o.block w.heap.size (by have:=HS2.o;have:=HS3.o;omega));obtain⟨a0,a1,a2⟩:=pB.o wo (HRX.o.trans lC.o);obtain⟨A7,c7,rfl,zpP,hc72⟩:=iF.form;obtain⟨nx,hnx⟩:=Xe x.length;rw[<-hnx] at iF HNX x1 zpP;have iL:=Lh hnx;have HX:=Lh iF;have hnx2:=HNX.o;clear hx hlf hnx iF Kt Jr Mz his hir a0 a1;go_wp2_with fail;go_loopg [10,40] nx (fun qkY v10 v40 wt=>∃ j:Nat,j<=nx/\nx - j<=qkY/\v40=.int .i64 j/\Hid (Below w3.heap.size w3 wt)/\Hid (Below w3.heap.size wo wt)/\Hid (wt.ownsRow w3.heap.size 81 3 v10 ((Np g.2.2 s i).length+j) (Wk (Np g.2.2 s i)++Wk ((Gb g.2.2 s i).take j))));exact⟨0,by omega,by omega,rfl,HB.o,(Xr _ _).mono HB.o.size,by rw[List.take_zero,show Wk []=[] from rfl,List.append_nil];exact HO10.o⟩;obtain⟨j,hj,qmC,rfl,HBT,quW,HOT⟩:=hrel;have zuI:=Lh (show b2<w3.heap.size by have:=HW3.o;omega);have z0:wr.cell? ⟨b2,o2+i*2,none⟩=some (.int .i64 lf):=(quW.o.cell (p:=⟨b2,o2+i*2,none⟩) zuI.o).trans y0;have z2:wr.cell? ⟨w.heap.size,2,none⟩=some (.slice (some ⟨b2,o2,none⟩) q c3):=(quW.o.cell (p:=⟨w.heap.size,2,none⟩) (show w.heap.size<w3.heap.size by have:=HW3.o;have:=HS2.o;have:=HS3.o;omega)).trans a2;by_cases hjx:j<nx
     ·have Mn:j<x.length:=by rw[<-iL.o];exact hjx
      obtain⟨b3,o3,rfl,-,hb3,cw⟩:=(HX.o.below (quW.o.mono HS3.o)).wd Mn;have HT:=Lh (show Wk ((Gb g.2.2 s i).take (j+1))=Wk ((Gb g.2.2 s i).take j)++Tj (lf,x[j],(i:Int)) by
       rw[HRA.o,Qc (by rw[Qk];exact Mn),oB,List.getElem_map])
      obtain⟨wj,hwj⟩:=Xe (x[j]);rw[<-hwj] at cw HT;obtain⟨pre,Bw⟩:=Xe (Wk (Np g.2.2 s i)++Wk ((Gb g.2.2 s i).take j));rw[<-Bw] at HOT;have HPRE:=Lh Bw;obtain⟨nr,ow⟩:=Xe ((Np g.2.2 s i).length);rw[<-ow] at HOT;have HNR:=Lh ow;have hnr2:nr<=16777216:=by have:=HTL.o;have:=HQ.o;omega
      have Db:=Lh HBT.o.size;obtain⟨A10,c10,rfl,zgG,zgF⟩:=Zo HOT.o;clear hwj Bw ow Mn y0 a2 x1;go_wp2_with (at_builtin;refine Zz (m:=1) (n:=nr+j) r_ rfl rfl rfl rfl (HOT.o.alloc _) (Rd.row (B:=wr.heap.size+1) (Xn wr _) (by omega)) rfl (by simp[Value.oneCell']) (by unfold maxLen;omega) (by omega) (by rw[Xs];have:=Db.o;omega) ?_);intro v' w7 ho7 Ta hv7 _;have HB7:=Lt (Below w3.heap.size w3 w7) (Zt (HBT.o.alloc Db.o (.cells (Tj (lf,wj,(i:Int))).toArray 81)) Ta (HOT.o.alloc _) (Ya _) (by rw[Xs];have:=Db.o;omega));have HBR7:=Lt (Below w3.heap.size wo w7) (Zt (quW.o.alloc Db.o (.cells (Tj (lf,wj,(i:Int))).toArray 81)) Ta (HOT.o.alloc _) (Ya _) (by rw[Xs];have:=Db.o;omega));have HO7:=Lh (show w7.ownsRow w3.heap.size 81 3 v' ((Np g.2.2 s i).length+(j+1)) (Wk (Np g.2.2 s i)++Wk ((Gb g.2.2 s i).take (j+1))) by
       rw[HT.o,<-Xd,<-HPRE.o,<-HNR.o]
       exact ho7)
      clear ho7 Ta hv7;go_wp2_with fail;go_roundg (gk - 1);exact⟨j+1,by omega,by omega,by go_num,HB7.o,HBR7.o,HO7.o⟩;omega
     ·have HEND:=Lh (show wr.ownsRow w3.heap.size 81 3 u10 (Np g.2.2 s (i+1)).length (Wk (Np g.2.2 s (i+1))) by
       have:=HOT.o
       have e:(Gb g.2.2 s i).take j=Gb g.2.2 s i:=Qd (by rw[HRA.o,Qk,<-iL.o];omega)
       have e2:(Gb g.2.2 s i).length=j:=by rw[HRA.o,Qk,<-iL.o];omega
       rw[e] at this
       rw[HTS.o,Qe,e2]
       unfold Wk at *
       rw[Qt,Qs]
       exact this)
      go_wp2_with fail;go_roundg (gas - 1);exact⟨i+1,by omega,by omega,by go_num,HBT.o,HEND.o⟩;have:=HGK.o;omega
    ·have zpE:i=q:=by omega
     subst zpE;have Cq:=Lh (show Np g.2.2 s i=Ve 0 g.2.2 s by rw[HL.o.2.2];exact sK (by rw[Nh.o];exact HL.o.2.2));have HTL:=Lh (Pc (rs:=g.2.2) kN.o i);obtain⟨A10,c10,rfl,zgG,zgF⟩:=Zo HO10.o;have zsD:=Lh (de w3.heap.size A10 c10 (Np g.2.2 s i) wo HO10.o (by have:=HTL.o;have:=HQ.o;omega));go_wp2_with fail;refine zsD.o.mono ?_;rintro e w9 ⟨rfl,rows,hp,hsd,ho9,hg9⟩;have HP:=Lh hp;have HSD:=Lh hsd;have hln:rows.length=(Np g.2.2 s i).length:=hp.length_eq;have HO9:=Lh (Fr ho9 (Yb HB2.o.size HS3.o));have HB9:=Lt (Below w.heap.size w w9) (Zt (HB3.o.trans (HB.o.mono (Yb HB2.o.size HS3.o))) hg9 HO10.o (Yb HB2.o.size HS3.o) (Yb (Yb HB2.o.size HS3.o) HB.o.size));clear hp hsd ho9 hg9 hln;go_wp2_with fail
     go_ret3
     refine⟨HB9.o,fun h=>absurd h nJ.o,fun _=>⟨some s,HO.o,.inr ⟨by rw[<-HC.o];exact HNE.o,_,rows,rfl,?_,HSD.o,?_⟩⟩⟩
     ·rw[<-Cq.o];exact HP.o
     ·exact HO9.o
def Sm(g:Kc)(i:Int):Int:=(g.2.2.getD i.toNat (0,[])).1
def Hq(g:Kc)(k:Int)(x:Ud):Bool:=!(decide (x.2.2<0)||decide ((g.2.2.length:Int)<=x.2.2)||decide (Sm g x.2.2≠x.1)||!Ou g.2.1.length k x.2.1)
def nF(p:Option Ud)(x:Ud):Bool:=match p with
 |none=>false
 |some y=>decide (0<=gF y x)
def Is(g:Kc)(k:Int):Option Ud->List Ud->Bool
 |_,[]=>true
 |p,x::l=>!nF p x&&Hq g k x&&Is g k (some x) l
def xe(g:Kc)(k:Int)(rows:List Ud):Bool:=Uj g&&Is g k none rows
def fZ(rows:List Ud):Nat->Option Ud
 |0=>none
 |i+1=>rows[i]?
theorem qdZ{g:Kc}{k:Int}{rows:List Ud}{i:Nat}(h:i<rows.length):Is g k (fZ rows i) (rows.drop i)=(!nF (fZ rows i) rows[i]&&Hq g k rows[i]&&Is g k (fZ rows (i+1)) (rows.drop (i+1))):=by
 rw[Ql h];simp only[Is,fZ,Qa h]
theorem qdY{A1 A2 A3:Option Addr}{n m q c1 c2 c3:Nat}{g:Kc}(A:Option Addr)(nr c:Nat)(k:Int)(rows:List Ud)(w:World)(h:Nb w w.heap.size A1 A2 A3 n m q c1 c2 c3 g)(hv:Je Aj w w.heap.size (.slice A nr c) rows)(hle:nr<=1048576) :
  Calls Tryz.prog 52 #[Ri A1 A2 A3 n m q c1 c2 c3,.int .i64 k,.slice A nr c] w fun e w'=>e=.returned (.bool (xe g k rows))/\Below w.heap.size w w':=by
 have Mo:=(Xr w.heap.size w).alloc (Ya _) (.cells #[.slice A1 n c1,.slice A2 m c2,.slice A3 q c3] 25);have HV:=Lh ((h.fut (B':=w.heap.size+1) Mo (Ya _) (by omega)));have HR:=Lt (Je Aj _ (w.heap.size+1) (.slice A nr c) rows) (hv.fut Mo (Ya _) (by omega));have HK:=Lh (Xn w (.cells #[.slice A1 n c1,.slice A2 m c2,.slice A3 q c3] 25));have HZ:=Lh (Xs w (.cells #[.slice A1 n c1,.slice A2 m c2,.slice A3 q c3] 25));have HBX:=Lh Mo;have HL:=Lh h.ln;have wN:=h.small;have HNR:=Lh hv.n_eq;have hnc:=hv.n_le;clear h Mo hv;have pB:Hid (∀(w2:World),w2.heap[w.heap.size]? = some (.cells #[.slice A1 n c1,.slice A2 m c2,.slice A3 q c3] 25 (0,0))->w2.cell? ⟨w.heap.size,0,none⟩=some (.slice A1 n c1)/\w2.cell? ⟨w.heap.size,1,none⟩=some (.slice A2 m c2)/\w2.cell? ⟨w.heap.size,2,none⟩=some (.slice A3 q c3)):=fun w2 hk=>⟨Xc hk rfl,Xc hk rfl,Xc hk rfl⟩;go_enter Tryz.func52,Tryz.ntmps52;go_wp2_with fail;generalize w.alloc (.cells #[.slice A1 n c1,.slice A2 m c2,.slice A3 q c3] 25)=w1 at *;refine (Nb.valid (w:=w1) (by rw[HZ.o];exact HV.o)).mono ?_;rintro e w2 ⟨rfl,Ja⟩;have HB2:=Lt (Below (w.heap.size+1) w1 w2) (Ja.mono (Yi HZ.o.symm));clear Ja;cases hv:Uj g with
 |false =>
  have HC:=Lh (show xe g k rows=false by unfold xe;rw[hv];rfl);clear hv;go_wp2_with fail;go_ret;exact⟨Kx (Zv HC.o.symm),HBX.o.trans (HB2.o.mono (by omega))⟩
 |true =>
  have HC:=Lh (show xe g k rows=Is g k none rows by unfold xe;rw[hv];rfl);clear hv;go_wp2_with fail;go_loopg [14] nr (fun left v14 wr=>∃ i:Nat,i<=nr/\nr - i<=left/\v14=.int .i64 i/\Hid (xe g k rows=Is g k (fZ rows i) (rows.drop i))/\Hid (Below (w.heap.size+1) w1 wr));exact⟨0,by omega,by omega,rfl,HC.o,HB2.o⟩;clear HC HB2;obtain⟨i,hi,Dp,rfl,HI,HBR⟩:=hrel;have HSR:=Lh (show w.heap.size+1<=wr.heap.size by have:=HBR.o.size;have:=HZ.o;omega);by_cases Li:i<nr
  ·have Wt:i<rows.length:=by rw[<-HNR.o];exact Li
   obtain⟨b1,o1,rfl,-,hb1,x0,x1,x2,Zx⟩:=(HR.o.below HBR.o).rowAt Wt;have Ev:=(mT Zx).2;have HI2:=Lh (HI.o.trans (qdZ Wt));obtain⟨x,hx⟩:=Xe (rows[i]);rw[<-hx] at x0 x1 x2 Ev HI2;clear hx Zx HI;obtain⟨xa,xs1,xi⟩:=x;simp only at x0 x1 x2 Ev;go_upto_region 6 with fail;have hb3:=(Xr wr.heap.size wr).alloc (Ya _) (.cells #[.int .i64 xa,wv xs1,.int .i64 xi] 81);have HB3:=Lt (Below (w.heap.size+1) w1 _) (HBR.o.trans (hb3.mono HSR.o));have wU:=Lh (Xs wr (.cells #[.int .i64 xa,wv xs1,.int .i64 xi] 81));have lC:=Lh (Xn wr (.cells #[.int .i64 xa,wv xs1,.int .i64 xi] 81));generalize wr.alloc (.cells #[.int .i64 xa,wv xs1,.int .i64 xi] 81)=w3 at *;have y0:w3.cell? ⟨wr.heap.size,0,none⟩=some (.int .i64 xa):=Xc lC.o rfl;have y1:w3.cell? ⟨wr.heap.size,1,none⟩=some (wv xs1):=Xc lC.o rfl;have y2:w3.cell? ⟨wr.heap.size,2,none⟩=some (.int .i64 xi):=Xc lC.o rfl;clear x0 x1 x2 hb3;obtain⟨b6,hb6⟩:=Xe (nF (fZ rows i) (xa,xs1,xi));rw[<-hb6] at HI2;have HB6:=Lh hb6;clear hb6
   go_cut [30] (fun v30 wx=>v30=.bool b6/\Hid (Below w3.heap.size w3 wx))
   case first =>
    cases i with
    |zero =>
     have HE:=Lt (b6=false) (HB6.o);refine Text.wp_grow [9] [7,8] [] (by kernel_rfl) (by kernel_rfl) ?_;refine Text.wpS_seg 9 _ _ _ _ (by decide) (fun Q' hQ'=>?_);simp only[Xta,Xtz];go_wp2_with fail;simp only[Yq,Xx,List.drop_zero];refine Text.wpS_one (fun Q' hQ'=>?_);go_wp2_with fail;refine⟨Xr _ _,?_⟩;refine Text.wpS_seg 2 _ _ _ _ (by decide) (fun Q' hQ'=>?_);simp only[Xta,Xtz];go_wp2_with fail;refine⟨by rfl,?_,?_⟩
     ·exact⟨Text.no_want rfl,Text.no_want rfl,trivial⟩
     go_wp2_with fail
     go_meet
     case rel=>exact⟨by rw[HE.o],(Xr _ _).drew⟩
    |succ i' =>
     have Wt:i'<rows.length:=by rw[<-HNR.o];omega
     obtain⟨b5,o5,he5,-,hb5,z0,z1,z2,-⟩:=(HR.o.below HB3.o).rowAt Wt;injection he5 with he5;injection he5 with e1 e2;subst e1 e2;have HE:=Lh (show b6=decide (0<=gF rows[i'] (xa,xs1,xi)) by rw[HB6.o];simp only[fZ,Qa Wt,nF]);obtain⟨y,hy⟩:=Xe (rows[i']);rw[<-hy] at z0 z1 z2 HE;clear hy Wt;obtain⟨ya,ys1,yi⟩:=y;simp only at z0 z1 z2;have HO:=Lh (zJ (ya,ys1,yi) (xa,xs1,xi));obtain⟨oo,hoo⟩:=Xe (gF (ya,ys1,yi) (xa,xs1,xi));rw[<-hoo] at HE HO;clear hoo;have he7:((i'+1:Nat):Int) - 1=i':=by omega
     refine Text.wp_grow [9] [7,8] [] (by kernel_rfl) (by kernel_rfl) ?_;refine Text.wpS_seg 9 _ _ _ _ (by decide) (fun Q' hQ'=>?_);simp only[Xta,Xtz];go_wp2_with fail
     try simp only[Yq,Xx,List.drop_zero]
     refine Text.wpS_one (fun Q' hQ'=>?_);go_wp2_with fail;refine (HO.o _).mono ?_;rintro e w5 ⟨rfl,hb5',_⟩;go_wp2_with fail;refine⟨hb5',?_⟩;refine Text.wpS_seg 2 _ _ _ _ (by decide) (fun Q' hQ'=>?_);simp only[Xta,Xtz];go_wp2_with fail;refine⟨by rfl,?_,?_⟩
     ·exact⟨fun _=>⟨_,_,rfl,z0⟩,fun _=>⟨_,_,rfl,y0⟩,trivial⟩
     go_wp2_with fail
     go_meet
     case rel=>exact⟨by rw[HE.o],(Xr _ _).drew.trans hb5'⟩
   case rest =>
    obtain⟨rfl,qhA⟩:=hcut;generalize wc=wx at *;have HB5:=Lt (Below (w.heap.size+1) w1 wx) (HB3.o.trans (qhA.o.mono (by have:=wU.o;have:=HSR.o;omega)));have HK5:=Lh ((qhA.o.block wr.heap.size (by have:=wU.o;omega)).trans lC.o);have H_:=Lh ((HB5.o.block w.heap.size (by omega)).trans HK.o);have wF:=Lh (show wr.heap.size+1<=wx.heap.size by have:=qhA.o.size;have:=wU.o;omega);obtain⟨a0,a1,a2⟩:=pB.o wx H_.o;clear y0 y1 y2 lC HB3 wU qhA a0;have y0:wx.cell? ⟨wr.heap.size,0,none⟩=some (.int .i64 xa):=Xc HK5.o rfl;have y1:wx.cell? ⟨wr.heap.size,1,none⟩=some (wv xs1):=Xc HK5.o rfl;have y2:wx.cell? ⟨wr.heap.size,2,none⟩=some (.int .i64 xi):=Xc HK5.o rfl;cases b6 with
    |true =>
     have HF:=Lh (show xe g k rows=false by rw[HI2.o];rfl);go_wp2_with fail;go_ret;exact⟨Kx (Zv HF.o.symm),HBX.o.trans (HB5.o.mono (by omega))⟩
    |false =>
    go_upto_region 8 with fail;obtain⟨b8,hb8⟩:=Xe (Hq g k (xa,xs1,xi));rw[<-hb8] at HI2;have HB8:=Lh hb8;clear hb8
    go_cut [63] (fun v63 wy=>v63=.bool (!b8)/\Hid (Below wx.heap.size wx wy))
    case first =>
     by_cases ai:xi<0
     ·have hd0:decide (xi<0)=true:=by simpa using ai
      have HE:=Lh (show (!b8)=true by rw[HB8.o];unfold Hq;simp[ai]);clear ai;refine Text.wp_grow [30] [1,5,7,13,15,18,20,25,27] [] (by kernel_rfl) (by kernel_rfl) ?_;refine Text.wpS_seg 30 _ _ _ _ (by decide) (fun Q' hQ'=>?_);simp only[Xta,Xtz];go_wp2_with fail
      try simp only[Yq,Xx,List.drop_zero]
      refine Text.wpS_one (fun Q' hQ'=>?_);go_wp2_with fail;refine⟨Xr _ _,?_⟩;refine Text.wpS_seg 2 _ _ _ _ (by decide) (fun Q' hQ'=>?_);simp only[Xta,Xtz];go_wp2_with fail;refine⟨by rfl,?_,?_⟩
      ·exact⟨fun _=>⟨_,_,rfl,y2⟩,Text.no_want rfl,Text.no_want rfl,Text.no_want rfl,Text.no_want rfl,Text.no_want rfl,Text.no_want rfl,Text.no_want rfl,Text.no_want rfl,trivial⟩
      go_wp2_with fail
      go_meet
      case rel=>exact⟨by rw[HE.o],(Xr _ _).drew⟩
     ·have hd0:decide (xi<0)=false:=by simpa using ai
      by_cases hxq:(q:Int)<=xi
      ·have jR:decide ((q:Int)<=xi)=true:=by simpa using hxq
       have HE:=Lh (show (!b8)=true by rw[HB8.o];unfold Hq;rw[<-HL.o.2.2];simp[hxq]);clear ai hxq;refine Text.wp_grow [30] [1,5,7,13,15,18,20,25,27] [] (by kernel_rfl) (by kernel_rfl) ?_;refine Text.wpS_seg 30 _ _ _ _ (by decide) (fun Q' hQ'=>?_);simp only[Xta,Xtz];go_wp2_with fail
       try simp only[Yq,Xx,List.drop_zero]
       refine Text.wpS_one (fun Q' hQ'=>?_);go_wp2_with fail;refine⟨Xr _ _,?_⟩;refine Text.wpS_seg 2 _ _ _ _ (by decide) (fun Q' hQ'=>?_);simp only[Xta,Xtz];go_wp2_with fail;refine⟨by rfl,?_,?_⟩
       ·exact⟨fun _=>⟨_,_,rfl,y2⟩,fun _=>⟨_,_,rfl,y2⟩,fun _=>⟨_,_,rfl,a2⟩,Text.no_want rfl,Text.no_want rfl,Text.no_want rfl,Text.no_want rfl,Text.no_want rfl,Text.no_want rfl,trivial⟩
       go_wp2_with fail
       go_meet
       case rel=>exact⟨by rw[HE.o],(Xr _ _).drew⟩
      ·have jR:decide ((q:Int)<=xi)=false:=by simpa using hxq
       obtain⟨j,rfl⟩:∃ j:Nat,xi=(j:Int):=⟨xi.toNat,by omega⟩;have hjq:j<q:=by omega
       have Mn:j<g.2.2.length:=by rw[<-HL.o.2.2];exact hjq
       have hd3:decide (q<=j)=false:=by simpa using hjq
       obtain⟨b2,o2,cs,rfl,-,-,Zx,Zm⟩:=(HV.o.rules.below HB5.o).get (k:=j) Mn (by decide);obtain⟨v,rfl,-,-,-⟩:=Kq Zx;have Vh:=Zm 0 _ rfl;simp only[show Vv.size=2 from rfl,Yp] at Vh;have HLF:=Lh (show Sm g (j:Int)=g.2.2[j].1 by unfold Sm;rw[Yy,Qb,Qa Mn];rfl);obtain⟨lf,hlf⟩:=Xe (g.2.2[j].1);rw[<-hlf] at Vh HLF;have HIS:=Lh (show Hq g k (xa,xs1,(j:Int))=!(decide (lf≠xa)||!Ou m k xs1) by
        unfold Hq
        rw[<-HL.o.2.2,<-HL.o.2.1,HLF.o,hd0,jR]
        rfl)
       clear Zm Zx hlf Mn ai hxq;by_cases kW:lf=xa
       ·have jQ:(lf != xa)=false:=by simpa using kW
        have HWV:=Lh (fun w=>wY xs1 (m:Int) k w Ev.2.1);have HE:=Lh (show (!b8)=!Ou m k xs1 by rw[HB8.o,HIS.o];simp[kW]);obtain⟨bw,aw⟩:=Xe (Ou m k xs1);rw[<-aw] at HWV HE;clear aw kW;refine Text.wp_grow [30] [1,5,7,13,15,18,20,25,27] [] (by kernel_rfl) (by kernel_rfl) ?_;refine Text.wpS_seg 30 _ _ _ _ (by decide) (fun Q' hQ'=>?_);simp only[Xta,Xtz];go_wp2_with fail
        try simp only[Yq,Xx,List.drop_zero]
        refine Text.wpS_one (fun Q' hQ'=>?_);go_wp2_with fail;refine (HWV.o _).mono ?_;rintro e w6 ⟨rfl,hb6'⟩;go_wp2_with fail;refine⟨hb6',?_⟩;refine Text.wpS_seg 2 _ _ _ _ (by decide) (fun Q' hQ'=>?_);simp only[Xta,Xtz];go_wp2_with fail;refine⟨by rfl,?_,?_⟩
        ·exact⟨fun _=>⟨_,_,rfl,y2⟩,fun _=>⟨_,_,rfl,y2⟩,fun _=>⟨_,_,rfl,a2⟩,fun _=>⟨_,_,rfl,a2⟩,fun _=>⟨_,_,rfl,y2⟩,fun _=>⟨_,_,rfl,Vh⟩,fun _=>⟨_,_,rfl,y0⟩,fun _=>⟨_,_,rfl,y1⟩,fun _=>⟨_,_,rfl,a1⟩,trivial⟩
        go_wp2_with fail
        go_meet
        case rel=>exact⟨by rw[HE.o],(Xr _ _).drew.trans hb6'⟩
       ·have jQ:(lf != xa)=true:=by simpa using kW
        have HE:=Lh (show (!b8)=true by rw[HB8.o,HIS.o];simp[kW]);clear kW;refine Text.wp_grow [30] [1,5,7,13,15,18,20,25,27] [] (by kernel_rfl) (by kernel_rfl) ?_;refine Text.wpS_seg 30 _ _ _ _ (by decide) (fun Q' hQ'=>?_);simp only[Xta,Xtz];go_wp2_with fail
        try simp only[Yq,Xx,List.drop_zero]
        refine Text.wpS_one (fun Q' hQ'=>?_);go_wp2_with fail;refine⟨Xr _ _,?_⟩;refine Text.wpS_seg 2 _ _ _ _ (by decide) (fun Q' hQ'=>?_);simp only[Xta,Xtz];go_wp2_with fail;refine⟨by rfl,?_,?_⟩
        ·exact⟨fun _=>⟨_,_,rfl,y2⟩,fun _=>⟨_,_,rfl,y2⟩,fun _=>⟨_,_,rfl,a2⟩,fun _=>⟨_,_,rfl,a2⟩,fun _=>⟨_,_,rfl,y2⟩,fun _=>⟨_,_,rfl,Vh⟩,fun _=>⟨_,_,rfl,y0⟩,Text.no_want rfl,Text.no_want rfl,trivial⟩
        go_wp2_with fail
        go_meet
        case rel=>exact⟨by rw[HE.o],(Xr _ _).drew⟩
    case rest =>
     obtain⟨rfl,HB9⟩:=hcut;generalize wc=wy at *;have HB10:=Lh (HB5.o.trans (HB9.o.mono (by have:=wF.o;have:=HSR.o;omega)));cases b8 with
     |false =>
      have HF:=Lh (show xe g k rows=false by rw[HI2.o];rfl);go_wp2_with fail;go_ret;exact⟨Kx (Zv HF.o.symm),HBX.o.trans (HB10.o.mono (by omega))⟩
     |true =>
      go_wp2_with fail;go_roundg (gk - 1);exact⟨i+1,by omega,by omega,by go_num,by show _=_;rw[HI2.o];simp,HB10.o⟩;omega
  ·have HF:=Lh (show xe g k rows=true by
    rw[HI.o,List.drop_eq_nil_of_le (by rw[<-HNR.o];omega)]
    rfl)
   go_wp2_with fail;go_ret;exact⟨Kx (Zv HF.o.symm),HBX.o.trans (HBR.o.mono (by omega))⟩
theorem qjV{α:Type}{a b:α}{l:List α}(h:l.Perm [a,b]):l=[a,b]\/l=[b,a]:=by
 have hl:=h.length_eq
 match l,hl with
 |[x,y],_ =>
  have ha:a∈[x,y]:=h.mem_iff.2 (by simp);rw[List.mem_cons,Qi] at ha;rcases ha with e | e
  ·subst e;have:=(List.Perm.cons_inv h).eq_singleton;left;rw[this]
  ·subst e;have:=(List.Perm.cons_inv ((List.Perm.swap x a []).trans h)).eq_singleton;right;injection this with this;rw[this]
def Rm:List Ud:=[(0,[],0),(0,[0],1)]
theorem qtX{rows:List Ud}(hp:rows.Perm Rm)(hs:rows.Pairwise fun a b=>¬ Md b a):rows=Rm:=by
 rcases qjV hp with h | h
 ·exact h
 ·rw[h] at hs;have:=(Qx.1 hs).1 (0,[],0) (by simp);exact absurd (show Md ((0:Int),([]:Wd),(0:Int)) (0,[0],1) from .inr ⟨rfl,by decide⟩) this
theorem qoD:Kb gA=0:=by kernel_rfl
theorem qoE:Lf 1 gA (some [[[]],[[0]]]):=⟨_,qmY,_,qzV,qnB.symm⟩
open Go.RowKit Go.Shelf
attribute [local go_sem] Oper.semAt_some
abbrev Beg:=Ud×Wd
def Ts(r:Ud):List Beg:=(List.range (r.2.1.length+1)).map fun k=>(r,r.2.1.take k)
def Aq(rows:List Ud):List Beg:=rows.flatMap Ts
abbrev iE(rows:List Ud):={ x:Beg // x∈Aq rows }
theorem bs(rows:List Ud){i:Nat}(h:i<rows.length):Aq (rows.take (i+1))=Aq (rows.take i)++Ts rows[i]:=by
 unfold Aq;rw[Qc h,List.flatMap_append];simp
theorem dM(r:Ud):(Ts r).length=r.2.1.length+1:=by simp[Ts]
theorem Z_(r:Ud){k:Nat}(h:k<r.2.1.length+1):(Ts r).take (k+1)=(Ts r).take k++[(r,r.2.1.take k)]:=by
 rw[Qc (by rw[dM];exact h)];simp[Ts]
theorem qgO(r:Ud):(Ts r).take (r.2.1.length+1)=Ts r:=Qd (Yi (dM r))
theorem qgN(r:Ud){k:Nat}(h:k<r.2.1.length+1):(r,r.2.1.take k)∈Ts r:=Xa.2 ⟨k,Xz.2 h,rfl⟩
theorem qtW{rows:List Ud}{i k:Nat}(h:i<rows.length)(hk:k<(rows[i]).2.1.length+1):(rows[i],(rows[i]).2.1.take k)∈Aq rows:=Xu.2 ⟨rows[i],Qg h,qgN _ hk⟩
theorem rh{rows:List Ud}{i k:Nat}(h:i<rows.length)(hk:k<(rows[i]).2.1.length+1):(Aq (rows.take i)++(Ts rows[i]).take k).length<(Aq rows).length:=by
 have h1:Aq rows=Aq (rows.take i)++Ts rows[i]++Aq (rows.drop (i+1)):=by
  rw[<-bs rows h];unfold Aq;rw[<-List.flatMap_append,Xm]
 rw[h1];simp only[Qe,Qq,dM];omega
structure KpR(N0:Nat)(W W':World):Prop where
 bel:Below N0 W W'
 keep:∀(k:Nat)(cs:Array Value),W.heap[k]? = some (.cells cs 81 (0,0))->W'.heap[k]? = some (.cells cs 81 (0,0))
theorem KpR.trans{N0:Nat}{A B C:World}(h:KpR N0 A B)(k:KpR N0 B C):KpR N0 A C:=⟨h.bel.trans k.bel,fun i cs hi=>k.keep i cs (h.keep i cs hi)⟩
theorem KpR.putObj{N0:Nat}{w:World}(hn:N0<=w.heap.size)(W:World)(l:Nat)(o o':Obj)(hl:w.heap.size<=l)(h:W.heap[l]? = some o)(h1:o.isCells=false)(h2:o.isWalk=false):KpR N0 W (W.putObj l o') :=
 ⟨belowK_b hn W l o o' hl h h1 h2,fun k cs hk=>(World.putObj_heap_other (fun e=>by
  subst e
  rw[h] at hk
  injection hk with hk
  subst hk
  cases h1)).trans hk⟩
theorem qnZ(n l Bs N0:Nat)(v:Value)(rows:List Ud)(hw:∀ r∈rows,r.2.1.length<=4611686018427387904)(J Jx:List (iE rows)->World->Prop)
  (hJ:∀ s A B,J s A->A.grownBy B none->J s B)
  (hY:∀(pre:List (iE rows))(x:iE rows)(W:World),J pre W->pre.length<(Aq rows).length->YieldAt Fence.wide (n - 1) Tryz.prog l #[qrT x.1.1,wv x.1.2] W fun e W' =>
   (e=.returned (.bool true)/\J (pre++[x]) W'/\KpR N0 W W')\/(e=.returned (.bool false)/\Jx (pre++[x]) W'))
  (W:World) (hN:N0<=W.heap.size) (hBs:W.cell? ⟨Bs,0,none⟩=some v) (hv:Je Aj W N0 v rows) (h0:J [] W) :
  CallsIn Fence.wide n Tryz.prog 165 #[.func (.yield l) #[] #[],.pointer (some ⟨Bs,0,none⟩)] W fun e W'=>(∃ v,e=.returned v) /\
   ((∃ ys:List (iE rows),ys.map Subtype.val=Aq rows/\J ys W')\/(∃ pre,True/\Jx pre W')):=by
 obtain⟨A,c,rfl,Nj,Uy⟩:=hv.form;unfold maxLen at Uy;have HV:=Lh hv;have HW:=Lh hw;have HN:=Lh hN;clear hv hw hN;obtain⟨nr,ow⟩:=Xe rows.length;have HNR:=Lh ow;rw[<-ow] at hBs Nj;clear ow;refine callsIn_of_wp Tryz.func165 rfl trivial ?_ rfl;simp only[Tryz.ntmps165,List.size_toArray,Qu,Xt,Nat.reduceAdd,Nat.reduceSub,Array.replicate_succ,Array.replicate_zero,List.push_toArray,List.append_toArray,List.nil_append,List.cons_append]
 gi_wp2
 gi_loopw [8] (fun v8 wr=>∃(i:Nat)(pre:List (iE rows)),i<=nr/\v8=.int .i64 i/\pre.map Subtype.val=Aq (rows.take i)/\J pre wr/\Hid (Below N0 W wr)) (fun v8 _=>nr - (intOf v8).toNat)
 exact⟨0,[],by omega,rfl,rfl,h0,Xr _ _⟩;obtain⟨i,pre,hi,rfl,Bw,hj,HB⟩:=hrel;by_cases Ji:i<nr
 ·have Nq:i<rows.length:=by have:=HNR.o;omega
  obtain⟨b1,o1,rfl,-,hb1,a0,a1,a2,-⟩:=(HV.o.below HB.o).rowAt Nq;have HSN:=Lh (bs rows Nq);have HM:=Lh (fun k (hk:k<(rows[i]).2.1.length+1)=>qtW (rows:=rows) Nq hk);have HL:=Lh (fun k (hk:k<(rows[i]).2.1.length+1)=>rh (rows:=rows) Nq hk);have hwl:=HW.o _ (Qg Nq);obtain⟨x,hx⟩:=Xe (rows[i]);rw[<-hx] at a0 a1 a2 HSN HM HL hwl;clear hx;obtain⟨xa,xs1,xi⟩:=x;simp only at a0 a1 a2 hwl;have HX:=Lh (Xn wr (.cells #[.int .i64 xa,.string ⟨xs1.toArray⟩,.int .i64 xi] 81));have HJ1:=Lh (hJ pre wr _ hj (World.grownBy_alloc wr (.cells #[.int .i64 xa,.string ⟨xs1.toArray⟩,.int .i64 xi] 81) none));have HB1:=Lh (HB.o.alloc (Yb HN.o HB.o.size) (.cells #[.int .i64 xa,.string ⟨xs1.toArray⟩,.int .i64 xi] 81));have HPRE:=Lh Bw;clear hj Bw HB
  gi_wp2
  generalize hw1:wr.alloc (.cells #[.int .i64 xa,.string ⟨xs1.toArray⟩,.int .i64 xi] 81)=w1 at *;generalize wr.heap.size=b4 at *;clear hw1
  gi_loopw [16] (fun ju wt=>∃(k:Nat)(pre2:List (iE rows)),k<=xs1.length+1/\ju=.int .i64 k/\Hid (pre2.map Subtype.val=Aq (rows.take i)++(Ts (xa,xs1,xi)).take k)/\Hid (J pre2 wt)/\Hid (Below N0 W wt)/\Hid (wt.heap[b4]? = some (.cells #[.int .i64 xa,.string ⟨xs1.toArray⟩,.int .i64 xi] 81 (0,0)))) (fun ju _=>xs1.length+1 - (intOf ju).toNat)
  exact⟨0,pre,by omega,rfl,by show _=_;rw[HPRE.o];simp,HJ1.o,HB1.o,HX.o⟩;clear HJ1 HB1 HX a0 a1 a2;obtain⟨k,pre2,hk,rfl,HP2,HJ2,HB2,HX2⟩:=hrel;by_cases hlk:k<xs1.length+1
  ·have y0:wr.cell? ⟨b4,0,none⟩=some (.int .i64 xa):=Xc HX2.o rfl;have y1:wr.cell? ⟨b4,1,none⟩=some (.string ⟨xs1.toArray⟩):=Xc HX2.o rfl;have y2:wr.cell? ⟨b4,2,none⟩=some (.int .i64 xi):=Xc HX2.o rfl;obtain⟨fn,tmps,assign,body,hy,hR0⟩:=hY pre2 ⟨_,HM.o k hlk⟩ wr.drew (hJ _ _ _ HJ2.o ⟨rfl,rfl,rfl,Ya _,fun _ _ _=>rfl⟩) (by have:=HL.o k hlk;rw[<-HP2.o,Qk] at this;exact this);dsimp only at hy;have hR:RoundIn Fence.wide (n - 1) Tryz.prog l fn tmps assign body wr.drew fun e W'=>∃ b:Bool,e=.returned (.bool b)/\((b=true/\J (pre2++[⟨_,HM.o k hlk⟩]) W'/\KpR N0 wr.drew W')\/(b=false/\Jx (pre2++[⟨_,HM.o k hlk⟩]) W')):=hR0.mono (by
    rintro e W' (⟨rfl,h1,h2⟩ | ⟨rfl,h1⟩)
    ·exact⟨true,rfl,.inl ⟨rfl,h1,h2⟩⟩
    ·exact⟨false,rfl,.inr ⟨rfl,h1⟩⟩)
   clear hR0;have hmix:Tryz.prog.follows .mixedOrders=true:=by kernel_rfl
   gi_wp2
   gi_region_with_o (first
    |(refine⟨trivial,(fun h=>absurd h Bool.false_ne_true),(callsIn_wide.2 (aN xs1 k _ (by unfold maxLen;omega) (by omega))).mono ?_⟩;rintro e w' ⟨rfl,rfl⟩)
    |(refine⟨(fun h=>absurd h Bool.false_ne_true),hR.mono ?_⟩;rintro e w' ⟨b,rfl,hb⟩)
    |(refine hR.mono ?_;rintro e w' ⟨b,rfl,hb⟩))
   all_goals
    rcases hb with ⟨rfl,hj,hkp⟩ | ⟨rfl,hjx⟩
    ·clear hY hR hy
     gi_wp2
     go_roundw;exact⟨k+1,_,by omega,by go_num,by show _=_;rw[Qt,HP2.o,Z_ _ hlk,Xd];rfl,hj,HB2.o.drew.trans hkp.bel,hkp.keep _ _ HX2.o⟩;simp[intOf];omega
    ·clear hY hR hy
     gi_wp2
     refine Zg (results_none rfl _ _ _) rfl ?_;exact⟨⟨_,rfl⟩,.inr ⟨_,trivial,hjx⟩⟩
  ·have Eu:k=xs1.length+1:=by omega
   subst Eu;clear hY
   gi_wp2
   go_roundw;exact⟨i+1,pre2,by omega,by go_num,by rw[HP2.o,HSN.o,qgO (xa,xs1,xi)],HJ2.o,HB2.o⟩;simp[intOf];omega
 ·have Wt:i=nr:=by omega
  subst Wt;clear hY
  gi_wp2
  go_end0
  exact⟨⟨_,rfl⟩,.inl ⟨pre,by rw[Bw,HNR.o,List.take_length],hj⟩⟩
theorem vG(n Bs N0:Nat)(v:Value)(rows:List Ud)(hw:∀ r∈rows,r.2.1.length<=4611686018427387904)(w:World)(hN:N0<=w.heap.size)(hB:Bs<w.heap.size)(hBs:w.cell? ⟨Bs,0,none⟩=some v)(hv:Je Aj w N0 v rows) :
  SeqStopsK Fence.wide n Tryz.prog 165 #[.pointer (some ⟨Bs,0,none⟩)] (fun x:iE rows=>#[qrT x.1.1,wv x.1.2]) (KpR N0) (fun xs=>xs.map Subtype.val=Aq rows) (fun _=>True) (Aq rows).length w :=
 fun l J Jx W hW hJ _ hY h0=>qnZ n l Bs N0 v rows hw J Jx (fun s A B hs hg=>hJ s A B none hs hg (fun r e=>by cases e)) hY W (Yb hN hW.size) ((hW.cell (p:=⟨Bs,0,none⟩) hB).trans hBs) (hv.below (hW.mono hN)) h0
theorem bR(A:Option Addr)(n c:Nat)(w:World) :
  Calls Tryz.prog 101 #[.slice A n c] w fun e w'=>e=.returned (.func (.func 165) #[] #[.pointer (some ⟨w.heap.size,0,none⟩)])/\w'=w.alloc (.cells #[.slice A n c] 28):=by
 go_enter Tryz.func101,Tryz.ntmps101;go_wp2_with fail;go_ret;exact⟨rfl,rfl⟩
open Go.RowKit Go.Sort
def uY(a b:Wd):Int:=if a.length=b.length then Lib.compareBytes a b else Lib.compareInt a.length b.length
theorem qtU(a b:Wd):uY a b<0↔Bj a b:=by
 unfold uY Bj;split
 ·rename_i h;rw[gU];constructor
  ·exact fun h2=>.inr ⟨h,h2⟩
  ·rintro (h2 | ⟨_,h2⟩)
   ·omega
   ·exact h2
 ·rename_i h;unfold Lib.compareInt;split
  ·rename_i h1;simp only[Int.reduceNeg,Int.reduceLT,true_iff];exact .inl (by omega)
  ·rename_i h1;constructor
   ·intro h2;split at h2 <;> omega
   ·rintro (h2 | ⟨h2,_⟩) <;> omega
theorem fS{a b c:Wd}(h:Bj a b)(k:Bj b c):Bj a c:=by
 rcases h with h | ⟨h1,h2⟩ <;> rcases k with k | ⟨k1,k2⟩
 ·exact .inl (by omega)
 ·exact .inl (by omega)
 ·exact .inl (by omega)
 ·exact .inr ⟨by omega,List.lt_trans h2 k2⟩
theorem rX(a b:Wd):Bj a b\/a=b\/Bj b a:=by
 rcases Nat.lt_trichotomy a.length b.length with h | h | h
 ·exact .inl (.inl h)
 ·by_cases h1:a<b
  ·exact .inl (.inr ⟨h,h1⟩)
  ·by_cases h2:b<a
   ·exact .inr (.inr (.inr ⟨h.symm,h2⟩))
   ·exact .inr (.inl (List.le_antisymm (List.not_lt.1 h2) (List.not_lt.1 h1)))
 ·exact .inr (.inr (.inl h))
theorem zX(x y:Wd):ltOf uY x y=true↔Bj x y:=by
 unfold ltOf;rw[Yj];exact qtU x y
theorem mF(x y:Wd):ltOf uY x y=false↔¬ Bj x y:=by
 rw[<-zX,Bool.not_eq_true]
theorem zmV:SWO (ltOf uY) where
 irrefl:=fun x=>by rw[mF];exact Cv x
 trans:=fun x y z h1 h2=>by rw[zX] at *;exact fS h1 h2
 ntrans:=fun x y z h1 h2=>by
  rw[mF] at *;intro h;rcases rX x y with h3 | h3 | h3
  ·exact h1 h3
  ·subst h3;exact h2 h
  ·exact h2 (fS h3 h)
theorem qfQ(x y:Wd)(w:World):Calls Tryz.prog 103 #[wv x,wv y] w fun e w'=>e=.returned (.int .i64 (uY x y))/\Below w.heap.size w w'/\w.drawn<=w'.drawn:=by
 by_cases h:x.length=y.length
 ·have hq:((x.length:Int)==(y.length:Int))=true:=by simp[h]
  have HO:=Lh (show uY x y=Lib.compareBytes x y by unfold uY;rw[if_pos h]);clear h;go_enter Tryz.func103,Tryz.ntmps103;go_wp2_with fail;refine (Tryz.strings_Compare ⟨x.toArray⟩ ⟨y.toArray⟩ _).mono ?_;rintro e w1 ⟨rfl,rfl⟩;go_wp2_with fail;go_ret;exact⟨Kx (Gu HO.o.symm),by go_grown,Ya _⟩
 ·have hq:((x.length:Int)==(y.length:Int))=false:=by rw[Yo];omega
  have HO:=Lh (show uY x y=Lib.compareInt x.length y.length by unfold uY;rw[if_neg h]);clear h;go_enter Tryz.func103,Tryz.ntmps103;go_wp2_with fail;refine (Tryz.cmp_Compare_int x.length y.length _).mono ?_;rintro e w1 ⟨rfl,rfl⟩;go_wp2_with fail;go_ret;exact⟨Kx (Gu HO.o.symm),by go_grown,Ya _⟩
def quB(base:Nat)(v:Value)(ks:List Wd)(w w':World):Prop:=∃ ts:List Wd,ts.Perm ks/\ts.Pairwise (fun a b=>¬ Bj b a)/\w'.ownsRow base 9 1 v ks.length (Jf ts)/\w.grownBy w' v.ownBlock
theorem xC(base:Nat)(A:Option Addr)(c:Nat)(ks:List Wd)(w:World)(h:w.ownsRow base 9 1 (.slice A ks.length c) ks.length (Jf ks))(hn:ks.length<4611686018427387904)(h0:0<ks.length) :
  Calls Tryz.prog 102 #[.slice A ks.length c,.func (.func 103) #[] #[]] w fun e w'=>e=.returned (.tuple #[])/\quB base (.slice A ks.length c) ks w w':=by
 have eg:∀ args w,(callFunc 103 args).run Tryz.prog w=.ok (.enter 103 args) w:=enters_of Tryz.func103 (by kernel_rfl) rfl;have HH:=Lh h;rcases HH.o.2 with ⟨xR,h1⟩ | ⟨g,cap,cur,hv,hbase,hb,h1,h2,h3,h4⟩
 ·omega
 ·injection hv with e1 e2 e3;subst e1 e3;have hH:Holds encStr w g 0 ks.toArray:=holds_of_block hb (by rw[Yr] at h4;exact h4);have hgl:g<w.heap.size:=(gl hb);have hS:=Any.slices_SortFunc Tryz.sortLayS encStr (fun _=>rfl) uY zmV 103 #[] g 0 c ks.toArray w eg (fun m os dk hdk x y=>(qfQ x y _).mono fun e w' ⟨he,hb,hd⟩=>⟨he,uG hb hd⟩) hH hgl (by simpa using hn);simp only[List.size_toArray] at hS;refine Calls.mono hS fun e w' ⟨he,d',n,os,hp,hs,hw⟩=>⟨he,d'.toList,?_,?_,?_,?_⟩
  ·obtain⟨p1,_,p3⟩:=hp;have e1:d'.extract 0 ks.length=d':=by
    apply Array.extract_eq_self_of_le;rw[p1];simp
   have e2:ks.toArray.extract 0 ks.length=ks.toArray:=by
    apply Array.extract_eq_self_of_le;simp
   rw[e1,e2] at p3;simpa using p3
  ·rw[List.pairwise_iff_getElem];intro i j hi hj hij;have Ek:d'.size=ks.length:=by rw[hp.1];simp
   have:=hs i j (Yf _) hij (by rw[<-Ek];simpa using hj);rw[mF] at this;have Hs:j<d'.size:=by simpa using hj
   have hi':i<d'.size:=by simpa using hi
   rw[getElem!_pos d' j Hs,getElem!_pos d' i hi'] at this;simpa using this
  ·subst hw;have Ek:d'.toList.length=ks.length:=by rw[Array.length_toList,hp.1];simp
   have:=ownsRow_sorted (w:=w) (base:=base) (g:=g) (cap:=c) (n:=n) (os:=os) (cur:=cur) (ss:=ks) (ts:=d'.toList) Ek hbase hb h1 h2 h3;rw[Array.toArray_toList] at this;exact this
  ·subst hw;have:=grownBy_sorted (w:=w) (g:=g) (n:=n) (os:=os) d';exact this
theorem lc{n l:Nat}{P:Program}{row:String}{args:Array Value}{w:World}{R:Value->World->Prop}(h:Rows P row args w R):RowsIn (Fence.wide.inRound l) n P row args w R :=
 fun c cs _=>let ⟨v,w',r,s⟩:=h c cs;⟨v,w',r,stepsIn_wide.2 s⟩
theorem sv{n l:Nat}{P:Program}{o:Oper}{a:Act}{w:World}{K:Act->World->Prop}{Q:Exit->Act->World->Prop}(So:∀ c,o.op≠.defer c)(h:o.wp P a w K Q):o.wpIn (Fence.wide.inRound l) n P a w K Q:=by
 refine⟨fun _ _=>trivial,?_⟩;rw[Fence.inRound_round,Oper.semAt_some l a.eval o So];unfold Oper.wp at h;generalize (execOp a.eval o).run P w=r at *;cases r with
 |ok x w' =>
  cases x with
  |value v=>exact h
  |skip=>exact h
  |defer d=>exact h
  |enter f args=>exact⟨fun h=>absurd h Bool.false_ne_true,CallsIn.inRound l (callsIn_wide.2 h)⟩
  |row r args=>exact⟨fun h=>absurd h Bool.false_ne_true,lc h⟩
  |round l f tmps assign body=>exact False.elim h
  |_=>exact False.elim h
 |halt x w'=>cases x <;> first | exact h | exact False.elim h
theorem Nz{W W':World}{row:Option Nat}(hg:W.grownBy W' row)(hr:∀ r,row=some r->∃ o:Obj,W.heap[r]? = some o/\o.isCells=false){k:Nat}{cs:Array Value}{t:TypeId}{fr:Nat×Nat}(h:W.heap[k]? = some (.cells cs t fr)):W'.heap[k]? = some (.cells cs t fr) :=
 (grownBy_keeps_cells hg hr h rfl).trans h
theorem Bp{W W':World}{row:Option Nat}(hg:W.grownBy W' row)(hr:∀ r,row=some r->∃ o:Obj,W.heap[r]? = some o/\o.isCells=false){base:Nat}{e:TypeId}{size:Nat}{v:Value}{n:Nat}{xs:List Value}(h:W.ownsRow base e size v n xs):W'.ownsRow base e size v n xs:=by
 refine⟨h.1,?_⟩;rcases h.2 with h' | ⟨g,cap,cur,rfl,hb,hh,r⟩
 ·exact .inl h'
 ·exact .inr ⟨g,cap,cur,rfl,hb,Nz hg hr hh,r⟩
theorem Dq{w w':World}{base:Nat}{e:TypeId}{size n:Nat}{v:Value}{xs:List Value}(hown:w.ownsRow base e size v n xs)(hg:w.grownBy w' v.ownBlock){k:Nat}{o:Obj}(h:w.heap[k]? = some o)(hne:∀ cur,o≠.cells cur e (0,0)):w'.heap[k]? = some o:=by
 refine (hg.block k (gl h) fun he=>?_).trans h;rcases hown.2 with ⟨rfl,_⟩ | ⟨g',cap,cur,rfl,_,hh,_⟩
 ·simp[Value.ownBlock] at he
 ·have:k=g':=by simpa[Value.ownBlock] using he
  subst this;rw[h] at hh;injection hh with hh;exact hne cur hh
theorem No{w:World}{g x:Nat}{cs ds:Array Value}{t u:TypeId}{fr gr:Nat×Nat}(h1:w.heap[g]? = some (.cells cs t fr))(h2:w.heap[x]? = some (.cells ds u gr))(ht:t≠u):g≠x:=by
 rintro rfl;have h3:=h1.symm.trans h2;injection h3 with h3;injection h3 with _ h3;exact ht h3
theorem qxU{α:Type}{κ:α->Value}{w:World}{g x:Nat}{l:List (α×Value)}{cs:Array Value}{t:TypeId}{fr:Nat×Nat}(h1:Up κ w g l)(h2:w.heap[x]? = some (.cells cs t fr)):g≠x:=by
 rintro rfl;obtain⟨es,c,hh,_⟩:=h1;rw[hh] at h2;cases h2
theorem Up.obj{α:Type}{κ:α->Value}{w:World}{g:Nat}{l:List (α×Value)}(h:Up κ w g l):∃ o:Obj,w.heap[g]? = some o/\o.isCells=false:=by
 obtain⟨es,c,hh,_⟩:=h;exact⟨_,hh,rfl⟩
theorem qqX{P:Program}{w:World}{o:Oper}{a:Act}{K:Act->World->Prop}{Q:Exit->Act->World->Prop}{s x:Operand}{t e:TypeId}{size bytes:Nat}{z:Value}(T:Dc P t e size bytes z)
  (ho:o.op=.call { callee:=.builtin .append,args:=#[s,x],argTypes:=#[t,t] })
  {v:Value} {A:Option Addr} {m c:Nat} (hs:a.eval s=v) (hx:a.eval x=.slice A m c)
  {base:Nat} {n:Nat} {xs:List Value} (hown:w.ownsRow base e size v n xs)
  {B:Nat} {news:List Value} (hr:Rd w B A news) (hl:news.length=m*size) (h1:∀ u∈news,u.oneCell'=true)
  (h63:n+m<=maxLen) (Iv:(n+m)*bytes<=140737488355328) (hbase:base<=w.heap.size)
  (h:∀ A' c' w',w'.ownsRow base e size (.slice A' (n+m) c') (n+m) (xs++news)->w.grownBy w' v.ownBlock->((Value.slice A' (n+m) c').ownBlock=v.ownBlock\/(Value.slice A' (n+m) c').ownBlock=some w.heap.size)->K (a.put o.dst (.slice A' (n+m) c')) w'):o.wp P a w K Q :=
 qiK T ho hs hx hown hr hl h1 h63 Iv hbase fun v' w' h2 h3 h4 _=>by
  obtain⟨A',c',rfl,_,_⟩:=Zo h2;exact h A' c' w' h2 h3 h4
theorem qqY{P:Program}{w:World}{o:Oper}{a:Act}{K:Act->World->Prop}{Q:Exit->Act->World->Prop}{s x:Operand}{t e:TypeId}{size bytes:Nat}{z:Value}(T:Dc P t e size bytes z)
  (ho:o.op=.call { callee:=.builtin .append,args:=#[s,x],argTypes:=#[t,t] })
  {v:Value} {A:Option Addr} {m c:Nat} (hs:a.eval s=v) (hx:a.eval x=.slice A m c)
  {base:Nat} {n:Nat} {xs:List Value} (hown:w.ownsRow base e size v n xs)
  {B:Nat} {news:List Value} (hr:Rd w B A news) (hl:news.length=m*size) (h1:∀ u∈news,u.oneCell'=true)
  {k:Nat} {u:Value} {tb:TypeId} (We:w.heap[k]? = some (.cells #[u] tb (0,0))) (htb:tb≠e)
  (h63:n+m<=maxLen) (Iv:(n+m)*bytes<=140737488355328) (hbase:base<=w.heap.size)
  (h:∀ A' c' w',w'.ownsRow base e size (.slice A' (n+m) c') (n+m) (xs++news)->w.grownBy w' v.ownBlock->((Value.slice A' (n+m) c').ownBlock=v.ownBlock\/(Value.slice A' (n+m) c').ownBlock=some w.heap.size) ->
   w'.heap[k]? = some (.cells #[u] tb (0,0))->w'.cell? ⟨k,0,none⟩=some u->w'.frozen? ⟨k,0,none⟩=false->K (a.put o.dst (.slice A' (n+m) c')) w'):o.wp P a w K Q :=
 qqX T ho hs hx hown hr hl h1 h63 Iv hbase fun A' c' w' h2 h3 h4=>by
  have hb:=Dq hown h3 We (fun cur e=>by injection e with _ e;exact htb e);exact h A' c' w' h2 h3 h4 hb (Xc hb rfl) (by simp[World.frozen?,hb])
theorem fN{F:Fence}{n:Nat}{P:Program}{w:World}{a:Act}{α:Type}{g:Operand}{ps:Array Tmp}{assign body:Code}{Q:Exit->Act->World->Prop}
  (hro:F.round=none) (h1:1<=n) {gf:Nat} {lb:Array Value} (hg:a.eval g=.func (.func gf) #[] lb) (hFg:F.fn gf) (eg:∀ args w,(callFunc gf args).run P w=.ok (.enter gf args) w)
  {qzW:α->Array Value} {Kp:World->World->Prop} {S Sp:List α->Prop} {N:Nat} {w0:World} (znR:SeqStopsK F (n - 1) P gf lb qzW Kp S Sp N w0)
  (hKt:∀{A B C:World},Kp A B->Kp B C->Kp A C) (hKb:∀(W:World)(l:Nat)(o o':Obj),w.heap.size<=l->W.heap[l]? = some o->o.isCells=false->o.isWalk=false->Kp W (W.putObj l o')) (Ag:Below w0.heap.size w0 w) (hps:∀ x,(qzW x).size=ps.size)
  (I:List α->World->Prop) (Ix:Code->List α->World->Prop) (hI:OwnFrom w.heap.size I) (hIx:∀ c,OwnFrom w.heap.size (Ix c)) (h0:I [] w) (row:α->Array Value) (t:TypeId)
  (El:∀(pre:List α)(x:α)(W:World),I pre W->Kp W (W.alloc (.cells (row x) t))/\I pre (W.alloc (.cells (row x) t))) (a₁:α->Nat->Act)
  (hassign:∀(l:Nat)(x:α)(W Wn:World)(b:Nat)(K:Act->World->Prop),b=W.heap.size->Wn=W.alloc (.cells (row x) t)->K (a₁ x b) Wn ->
   assign.wpIn (F.inRound l) (n - 1 - 1) P (Exit.then K (fun _ _ _=>False)) { tmps:=(ps.zip (qzW x)).foldl (fun t (p,v)=>t.setIfInBounds p v) a.tmps,defers:=[] } W)
  (hbody:∀(l:Nat)(pre:List α)(x:α)(b:Nat)(W:World),W.heap[b]? = some (.cells (row x) t (0,0))->I pre W->pre.length<N->body.wpIn (F.inRound l) (n - 1 - 1) P (ownPostG w.heap.size Kp I Ix (pre++[x]) W) (a₁ x b) W)
  (hdone:∀(D:Nat)(xs:List α)(W:World),w.heap.size<=D->S xs->I xs W->W.heap[D]? = some (.deferred (some []))->Q .normal { a with defers:={ target:=.collected D,args:=#[] }::a.defers } W)
  (hstop:∀(D:Nat)(c:Code)(pre:List α)(W:World),w.heap.size<=D->Sp pre->Ix c pre W->W.heap[D]? = some (.deferred (some []))->c.wpIn F n P Q { a with defers:={ target:=.collected D,args:=#[] }::a.defers } W) :
  (Code.rangeFunc g ps assign body).wpIn F n P Q a w :=
 wpIn_rangeFunc_ownH hro h1 hg hFg eg znR (fun h k=>hKt h k) hKb Ag hps I Ix hI hIx h0 (fun x a' W=>∃ b:Nat,W.heap[b]? = some (.cells (row x) t (0,0))/\a'=a₁ x b)
  (fun _ _ _ _ _ _ hs hg hr=>let ⟨b,hb,e⟩:=hs;⟨b,Nz hg (fun r e=>(hr r e).2) hb,e⟩)
  (fun l pre x W K hi hK=>hassign l x W _ _ K rfl rfl (hK _ _ ⟨by simp,fun k _ _ hk _=>(Ze W _ k (gl hk)).trans hk⟩ (El pre x W hi).1 (El pre x W hi).2 ⟨_,Xn W _,rfl⟩))
  (fun l pre x _ W _ _ hi hs hl=>by
   obtain⟨b,hb,rfl⟩:=hs
   exact hbody l pre x b W hb hi hl) hdone hstop
theorem bm{W:World}{D:Nat}{o:Obj}(hD:W.heap[D]? = some o)(ho:o.isCells=false){p:Addr}(hp:p.block=D):W.cell? p=none:=by
 unfold World.cell?;rw[hp,hD];cases o with
 |cells c t f=>cases ho
 |_=>rfl
theorem qr{W:World}{D:Nat}{o o':Obj}(hD:W.heap[D]? = some o)(ho:o.isCells=false)(wQ:o'.isCells=false)(p:Addr):(W.putObj D o').cell? p=W.cell? p:=by
 by_cases hp:p.block=D
 ·rw[bm hD ho hp,bm (World.putObj_heap_same (w:=W) (o:=o') (gl hD)) wQ hp]
 ·exact World.cell?_of_block (World.putObj_heap_other hp)
theorem Up.stay{α:Type}{κ:α->Value}{w w':World}{g:Nat}{l:List (α×Value)}(h:Up κ w g l)(hs:∀ o:Obj,w.heap[g]? = some o->o.isCells=false->w'.heap[g]? = some o):Up κ w' g l:=by
 obtain⟨es,c,hh,_⟩:=id h;exact h.of_block ((hs _ hh rfl).trans hh.symm)
abbrev qwO(W:World)(N b:Nat)(rs:List (Int×Value))(es:List (List (Int×Int))):Prop:=Oj 118 145 W N b rs es
def Rf(ts:List Wd)(e:Nat):List (List (Int×Int)):=ts.map fun x=>Do (ts.take e) x
structure Nm(D:Nat)(w W:World)(g1 b3 b9 bo:Nat)(ts:List Wd)(v4:Value)(a e:Nat)(out:Nat->Int):Prop where
 at_:AtR wv W g1 ts a
 box3:W.heap[b3]? = some (.cells #[.map (some g1)] 147 (0,0))
 box9:W.heap[b9]? = some (.cells #[.slice (some ⟨bo,0,none⟩) ts.length ts.length] 64 (0,0))
 own:W.ownsRow w.heap.size 9 1 v4 ts.length (Jf ts)
 outs:∃ rs,qwO W w.heap.size bo rs (Rf ts e)/\∀(j:Nat)(r:Int×Value),rs[j]? = some r->r.1=out j
 bel:Below w.heap.size w W
 lo:w.heap.size<=g1/\w.heap.size<=bo
 dfr:W.heap[D]? = some (.deferred (some []))
theorem uV:Dc Tryz.prog 116 145 2 16 (.agg #[.int .i64 0,.int .i64 0]):=Gq (by kernel_rfl) (by kernel_rfl) rfl (by omega)
theorem qdR{x:Wd}{m:Nat}(h:x.length=m+1)(hm:m<(⟨x.toArray⟩:ByteArray).size):wrap64 (((⟨x.toArray⟩:ByteArray)[m].toNat:Nat):Int)=((x.getLastD 0).toNat:Int):=by
 have h1:(⟨x.toArray⟩:ByteArray)[m]=x.getLastD 0:=by
  show x.toArray[m]=_;have hne:x≠[]:=fun e=>by subst e;simp at h
  rw[List.getLastD_eq_getLast?,List.getLast?_eq_getElem?,h,Nat.add_sub_cancel,Qa (by omega)];simp
 rw[h1];have:=(x.getLastD 0).toNat_lt;have h2:((x.getLastD 0).toNat:Int)<256:=by omega
 unfold wrap64;omega
theorem mz(n:Nat):madeCells #[.int .i64 0,.slice none 0 0] (n*2)=(Ug (List.replicate n (0,.slice none 0 0))).toArray:=by
 have hl:(Ug (List.replicate n (0,Value.slice none 0 0))).length=n*2:=by rw[tu,Qr]
 apply Array.ext
 ·rw[size_madeCells,List.size_toArray,hl]
 ·intro i h1 h2;rw[size_madeCells] at h1;have hk:(List.replicate n ((0:Int),Value.slice none 0 0))[i/2]? = some (0,.slice none 0 0):=by rw[Xg,if_pos (by omega)]
  obtain⟨g1,g2⟩:=fV hk;have hs:(Ug (List.replicate n (0,Value.slice none 0 0)))[i]? = some (Ug (List.replicate n (0,Value.slice none 0 0))).toArray[i]:=by
   rw[Qa (by omega)];rfl
  rcases Nat.mod_two_eq_zero_or_one i with h3 | h3
  ·rw[show i/2*2=i by omega,hs] at g1;injection g1 with g1;rw[g1];simp[madeCells,h3]
  ·rw[show i/2*2+1=i by omega,hs] at g2;injection g2 with g2;rw[g2];simp[madeCells,h3]
theorem tm(n:Nat)(hn:n<=2199023255552)(w:World):(Instr.makeSlice 64 (.int .i64 (n:Int)) (.int .i64 (n:Int))).run Tryz.prog w=.ok (.slice (some ⟨w.heap.size,0,none⟩) n n) (w.alloc (.cells (Ug (List.replicate n (0,.slice none 0 0))).toArray 118)):=by
 obtain⟨i,hi,hzz⟩:=Option.map_eq_some_iff.1 (show (Tryz.prog.info? 118).map (fun i=>(i.zero,i.size,i.bytes))=some (some (.agg #[.int .i64 0,.slice none 0 0]),2,32) by kernel_rfl);simp only[Prod.mk.injEq] at hzz;obtain⟨hz,hs,hb⟩:=hzz;have hr:=run_make (P:=Tryz.prog) w 64 118 i _ Tryz.underlying64 hi hz .i64 .i64 n n (by omega) (Int.le_refl _) (by rw[hb];omega) (by omega);simp only[Yy,hs] at hr;rw[<-mz];exact hr
section
variable {D:Nat} {w W W':World} {g1 b3 b9 bo a e:Nat} {ts:List Wd} {v4:Value} {out out':Nat->Int}
theorem AtR.stay{κ:Wd->Value}{g i:Nat}(h:AtR κ W g ts i)(hs:∀ o:Obj,W.heap[g]? = some o->o.isCells=false->W'.heap[g]? = some o):AtR κ W' g ts i:=by
 obtain⟨l,hm,hl⟩:=h;exact⟨l,hm.stay hs,hl⟩
theorem Nm.c3(h:Nm D w W g1 b3 b9 bo ts v4 a e out):W.cell? ⟨b3,0,none⟩=some (.map (some g1)):=Xc h.box3 rfl
theorem Nm.c9(h:Nm D w W g1 b3 b9 bo ts v4 a e out):W.cell? ⟨b9,0,none⟩=some (.slice (some ⟨bo,0,none⟩) ts.length ts.length):=Xc h.box9 rfl
theorem Sn(ts:List Wd)(e:Nat):(Rf ts e).length=ts.length:=by simp[Rf]
theorem Nm.at_out(h:Nm D w W g1 b3 b9 bo ts v4 a e out){j:Nat}(hj:j<ts.length):∃ v,W.cell? ⟨bo,j*2,none⟩=some (.int .i64 (out j))/\W.cell? ⟨bo,j*2+1,none⟩=some v/\(∀ k,W.frozen? ⟨bo,k,none⟩=false)/\∀ l,(Rf ts e)[j]? = some l->W.ownsRow w.heap.size 145 2 v l.length (Iw l):=by
 obtain⟨rs,hO,hr⟩:=h.outs;have hl:j<rs.length:=by rw[hO.len,Sn];exact hj
 have hg:=Qa hl;obtain⟨c1,c2,c3⟩:=hO.cells hg;rw[hr j _ hg] at c1;exact⟨_,c1,c2,c3,fun l dD=>hO.own j _ l hg dD⟩
theorem Nm.keep(h:Nm D w W g1 b3 b9 bo ts v4 a e out)(hs:∀(k:Nat)(o:Obj),W.heap[k]? = some o->o.isCells=true\/k=g1\/k=D->W'.heap[k]? = some o)(hb:Below w.heap.size W W'):Nm D w W' g1 b3 b9 bo ts v4 a e out:=by
 obtain⟨rs,hO,hr⟩:=h.outs;exact⟨h.at_.stay fun o ho _=>hs _ _ ho (.inr (.inl rfl)),hs _ _ h.box3 (.inl rfl),hs _ _ h.box9 (.inl rfl),Vb h.own fun g cur _ hh=>hs _ _ hh (.inl rfl),⟨rs,hO.keep fun g cur t _ hh=>hs _ _ hh (.inl rfl),hr⟩,h.bel.trans hb,h.lo,hs _ _ h.dfr (.inr (.inr rfl))⟩
theorem Nm.others(h:Nm D w W g1 b3 b9 bo ts v4 a e out){row:Option Nat}(hg:W.grownBy W' row)(hr:∀ r,row=some r->g1<r/\D<r/\∃ o:Obj,W.heap[r]? = some o/\o.isCells=false):Nm D w W' g1 b3 b9 bo ts v4 a e out:=by
 refine h.keep (fun k o hk hc=>(hg.block k (gl hk) fun e=>?_).trans hk) ⟨hg.os,hg.tape,hg.output,hg.size,fun k hk=>hg.block k (Yd hk h.bel.size) fun e=>by have:=(hr k e.symm).1;have:=h.lo.1;omega⟩;obtain⟨h1,h4,o',h2,h3⟩:=hr k e.symm;rcases hc with hc | hc | hc
 ·rw[hk] at h2;injection h2 with h2;subst h2;rw[hc] at h3;cases h3
 ·omega
 ·omega
theorem Nm.ext(h:Nm D w W g1 b3 b9 bo ts v4 a e out)(ho:∀ k<ts.length,out k=out' k):Nm D w W g1 b3 b9 bo ts v4 a e out':=by
 obtain⟨rs,hO,hr⟩:=h.outs;refine⟨h.at_,h.box3,h.box9,h.own,⟨rs,hO,fun j r hj=>?_⟩,h.bel,h.lo,h.dfr⟩;rw[hr j r hj];exact ho j (by rw[<-Sn ts e,<-hO.len];exact (Qj.1 hj).1)
theorem Nm.tree{rows:List Ud}(h:Nm D w W g1 b3 b9 bo ts v4 a ts.length out)(hl:ts.length<=maxLen)(ho:∀(k:Nat)(x:Wd),ts[k]? = some x->out k=Dn rows x)(hb:∀ x,-9223372036854775808<=Dn rows x/\Dn rows x<=9223372036854775807) :
  Je Js W W.heap.size (.slice (some ⟨bo,0,none⟩) ts.length ts.length) (Nv rows ts):=by
 obtain⟨rs,hO,hr⟩:=h.outs;have hrl:rs.length=ts.length:=by rw[hO.len,Sn]
 have It:∀(k:Nat)(hk:k<rs.length),rs[k].1=Dn rows (ts[k]'(by omega)):=fun k hk=>by
  rw[hr k _ (Qa hk)];exact ho k _ (Qa (by omega))
 have hs:=hO.sl Js Gm rfl rfl (c:=ts.length) (by omega) hl (fun r hm=>by
  obtain⟨k,hk,rfl⟩:=Qz hm
  rw[It k hk]
  exact hb _) (fun l hm e he=>by
  unfold Rf at hm
  obtain⟨x,_,rfl⟩:=Xa.1 hm
  rw[List.take_length] at he
  obtain⟨c,j,h1,h2,h3⟩:=bE.1 (show (e.1,e.2)∈Do ts x from he)
  have hj:=(Qj.1 h1).1
  have hc:=c.toNat_lt
  unfold maxLen at hl
  omega)
 rw[hrl] at hs;have he:((rs.zip (Rf ts ts.length)).map fun p=>(p.1.1,p.2))=Nv rows ts:=by
  apply List.ext_getElem
  ·rw[Qk,List.length_zip,Sn,hrl,Nat.min_self,Dm]
  ·intro k h1 h2;rw[Dm] at h2;simp only[List.getElem_map,List.getElem_zip,Nv,Rf,List.take_length];rw[It k (by omega)]
 rwa [he] at hs
theorem Nm.alloc(h:Nm D w W g1 b3 b9 bo ts v4 a e out)(o:Obj):Nm D w (W.alloc o) g1 b3 b9 bo ts v4 a e out :=
 h.keep (fun k _ hk _=>(Ze W o k (gl hk)).trans hk) ((Xr _ _).alloc h.bel.size _)
theorem Nm.drew(h:Nm D w W g1 b3 b9 bo ts v4 a e out):Nm D w W.drew g1 b3 b9 bo ts v4 a e out:=h.keep (fun _ _ hk _=>hk) (Xr _ _).drew
theorem Nm.look(h:Nm D w W g1 b3 b9 bo ts v4 a e out)(hn:ts.Nodup){mt kt et:TypeId}{P:Program}(K:Sf P mt kt et wv){z:Value}(hz:∀ w:World,(zeroValue et).run P w=.ok z w){j:Nat}{p:Wd}(hj:ts[j]? = some p)(hja:j<a) :
  (Instr.lookup mt (.map (some g1)) (wv p) false).run P W=.ok (.int .i64 j) W:=by
 obtain⟨l,hm,hl⟩:=h.at_;have h1:=hm.lookup K hz p;have h2:p∈ts.take a:=by
  obtain⟨b1,b2⟩:=Qj.1 hj;exact Qp (i:=j) (by rw[List.getElem?_take,if_pos hja];exact hj)
 rw[hl,qtY h2,Lw hn hj] at h1;exact h1
theorem Nm.put(h:Nm D w W g1 b3 b9 bo ts v4 a e out)(hn:ts.Nodup){x:Wd}(hx:ts[a]? = some x){mt kt et:TypeId}{P:Program}(K:Sf P mt kt et wv) :
  ∃ W',(Instr.mapUpdate mt (.map (some g1)) (wv x) (.int .i64 a)).run P W=.ok () W'/\Nm D w W' g1 b3 b9 bo ts v4 (a+1) e out/\W.grownBy W' (some g1)/\W'.heap.size=W.heap.size:=by
 obtain⟨l,hm,hl⟩:=h.at_;obtain⟨W1,iG,jO,Cn,Ft⟩:=hm.update K x (.int .i64 a);have El:∀ r,some g1=some r->∃ o:Obj,W.heap[r]? = some o/\o.isCells=false:=fun r e=>by cases e;exact hm.obj
 have hst:∀(k:Nat)(cs:Array Value)(t:TypeId)(fr:Nat×Nat),W.heap[k]? = some (.cells cs t fr)->W1.heap[k]? = some (.cells cs t fr):=fun k cs t fr hk=>Nz Cn El hk;obtain⟨rs,hO,hr⟩:=h.outs;refine⟨W1,iG,⟨⟨_,jO,fun y=>by rw[Ha,hl,qoG hn hx]⟩,hst _ _ _ _ h.box3,hst _ _ _ _ h.box9,Bp Cn El h.own,⟨rs,hO.keep fun g cur t _ hh=>hst _ _ _ _ hh,hr⟩,?_,h.lo,(Cn.block D (gl h.dfr) fun e=>?_).trans h.dfr⟩,Cn,Ft⟩
 ·exact h.bel.trans ((Xr _ _).grown Cn h.bel.size fun k e=>by injection e with e;have:=h.lo.1;omega)
 ·injection e with e;obtain⟨es,c,hh,_⟩:=hm;have:=h.dfr;rw[e,hh] at this;cases this
theorem Nm.setOut(h:Nm D w W g1 b3 b9 bo ts v4 a e out){j:Nat}(hj:j<ts.length)(x:Int)(ho:∀ k,out' k=if k=j then x else out k):Nm D w (W.setCell ⟨bo,j*2,none⟩ (.int .i64 x)) g1 b3 b9 bo ts v4 a e out':=by
 obtain⟨rs,hO,hr⟩:=h.outs;have hl:j<rs.length:=by rw[hO.len,Sn];exact hj
 have hst:∀(k:Nat)(o:Obj),W.heap[k]? = some o->k≠bo->(W.setCell ⟨bo,j*2,none⟩ (.int .i64 x)).heap[k]? = some o:=fun k o hk hn=>(Zb _ _ _ _ hn).trans hk;have hbo:=hO.box;refine⟨h.at_.stay (fun o ho hc=>hst _ _ ho fun e=>by subst e;rw[hbo] at ho;cases ho;cases hc),hst _ _ h.box3 (No h.box3 hbo (by decide)),hst _ _ h.box9 (No h.box9 hbo (by decide)),Vb h.own fun g cur _ hh=>hst _ _ hh (No hh hbo (by decide)),
  ⟨_,hO.setOut (by decide) (Qa hl) x,fun k r hk=>?_⟩,h.bel.trans ((Xr _ _).setCell h.lo.2 _),h.lo,hst _ _ h.dfr fun e=>by have:=h.dfr;rw[e,hbo] at this;cases this⟩
 rw[Xv] at hk;rw[ho k];split at hk
 ·rename_i hjk;subst hjk;injection hk with hk;rw[if_pos rfl,<-hk]
 ·rename_i hjk;rw[if_neg fun e=>hjk e.symm];exact hr k r hk
theorem Nm.root(h:Nm D w W g1 b3 b9 bo ts v4 a e out)(hx:ts[e]? = some []):Nm D w W g1 b3 b9 bo ts v4 a (e+1) out:=by
 obtain⟨h1,h2,h3,h4,h5,h6,h7,h8⟩:=h;refine⟨h1,h2,h3,h4,?_,h6,h7,h8⟩;unfold Rf at h5 |-;rw[qdS hx];exact h5
theorem Nm.edge(h:Nm D w W g1 b3 b9 bo ts v4 a e out)(hn:ts.Nodup){j:Nat}{x p:Wd}(hx:ts[e]? = some x)(hne:x≠[])(hp:x.dropLast=p)(hj:ts[j]? = some p){v u:Value}(hv:W.cell? ⟨bo,j*2+1,none⟩=some v)
  (hown:W'.ownsRow w.heap.size 145 2 u ((Do (ts.take e) p).length+1) (Iw (Do (ts.take e) p++[(((x.getLastD 0).toNat:Int),(e:Int))]))) (hg:W.grownBy W' v.ownBlock) (hu:u.ownBlock=v.ownBlock\/u.ownBlock=some W.heap.size) :
  Nm D w (W'.setCell ⟨bo,j*2+1,none⟩ u) g1 b3 b9 bo ts v4 a (e+1) out:=by
 obtain⟨rs,hO,hr⟩:=h.outs;obtain⟨Mn,hje⟩:=Qj.1 hj;have hl:j<rs.length:=by rw[hO.len,Sn];exact Mn
 have hrj:=Qa hl;have oM:v=rs[j].2:=by
  have:=(hO.cells hrj).2.1;rw[hv] at this;injection this
 rw[oM] at hg hu;have hkj:(Rf ts e)[j]? = some (Do (ts.take e) p):=by unfold Rf;rw[Qv,hj];rfl
 have hownj:=hO.own j _ _ hrj hkj;have zgJ:=hO.app (by decide) hrj hkj hown hg hu;have hbo:=hO.box;have mM:∀(k:Nat)(o:Obj),W.heap[k]? = some o->(∀ cur,o≠.cells cur 145 (0,0))->W'.heap[k]? = some o:=fun k o hk hne=>Dq hownj hg hk hne;have hbo':=mM _ _ hbo fun cur e=>by cases e
 have hst:∀(k:Nat)(o:Obj),W.heap[k]? = some o->k≠bo->(∀ cur,o≠.cells cur 145 (0,0))->(W'.setCell ⟨bo,j*2+1,none⟩ u).heap[k]? = some o:=fun k o hk hn hne=>(Zb _ _ _ _ hn).trans (mM k o hk hne);have Gl:(W'.setCell ⟨bo,j*2+1,none⟩ u).ownsRow w.heap.size 9 1 v4 ts.length (Jf ts):=Vb h.own fun g cur _ hh=>hst _ _ hh (No hh hbo (by decide)) (fun cur e=>by cases e);refine⟨h.at_.stay (fun o ho hc=>hst _ _ ho (fun e=>by subst e;rw[hbo] at ho;cases ho;cases hc) fun cur e=>by subst e;cases hc),hst _ _ h.box3 (No h.box3 hbo (by decide)) (fun cur e=>by cases e),hst _ _ h.box9 (No h.box9 hbo (by decide)) (fun cur e=>by cases e),
  Gl,⟨rs.set j (rs[j].1,u),?k1,?k2⟩,?k3,h.lo,hst _ _ h.dfr (fun e=>by have:=h.dfr;rw[e,hbo] at this;cases this) (fun cur e=>by cases e)⟩
 case k1 =>
  have hk:=qlC hn hx hne hp hj;unfold Rf at zgJ |-;rw[hk];exact zgJ
 case k2 =>
  intro k r hk;rw[Xv] at hk;split at hk
  ·rename_i hjk;subst hjk;injection hk with hk;rw[<-hk];show rs[j].1=_;exact hr j _ hrj
  ·exact hr k r hk
 case k3=>exact h.bel.trans ((Zt (Xr _ _) hg hownj (Ya _) h.bel.size).setCell h.lo.2 _)
end
end Go.Proofs.YtmaojnmnbpomeaaGreatDoor
