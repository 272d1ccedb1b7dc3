/- A part. -/
import Derived.Test.YtmaojnmnbpomeaaGreatDoorVM09
set_option maxRecDepth 100000
set_option maxHeartbeats 64000000
namespace Go.Proofs.YtmaojnmnbpomeaaGreatDoor
open Go.RowKit
theorem Jb{w:World}{g:Nat}{a b c:Value}{t:TypeId}{fr:Nat×Nat}(h:w.heap[g]? = some (.cells #[a,b,c] t fr)):w.cell? ⟨g,0,none⟩=some a/\w.cell? ⟨g,1,none⟩=some b/\w.cell? ⟨g,2,none⟩=some c:=by
 refine⟨?_,?_,?_⟩ <;> (rw[Zc _ _ _ _ _ _ h];rfl)
theorem sI:Dc Tryz.prog 23 63 2 32 (.agg #[.int .i64 0,.slice none 0 0]):=Gq (by kernel_rfl) (by kernel_rfl) rfl (by omega)
theorem lk{fn:Func}{p:Tmp}{Q:Ending->World->Prop}(h:fn.results=#[.cell p 25]){a:Act}{w:World}{g:Nat}{c0 c1 c2:Value}{t:TypeId}{fr:Nat×Nat}(hd:a.defers=[])(hp:a.tmps.getD p undef=.pointer (some ⟨g,0,none⟩))
  (hg:w.heap[g]? = some (.cells #[c0,c1,c2] t fr)) (hq:Q (.returned (.agg #[c0,c1,c2])) w):bodyPost Tryz.prog fn Q .ret a w :=
 Zg (v:=.agg #[c0,c1,c2]) (results_cell_row h _ w g t _ fr _ hp hg Tryz.underlying25 rfl (by kernel_rfl)) hd hq
def zuM(ns ts:List Wd)(rs:List Jo)(w:World)(e:Ending)(w':World):Prop :=
 ∃ u1 u2 u3,e=.returned (.agg #[u1,u2,u3])/\(∀ w'':World,(∀ b,w.heap.size<=b->b<w'.heap.size->w''.heap[b]? = w'.heap[b]?)->Je eW w'' w''.heap.size u1 (Di ns)/\Je eW w'' w''.heap.size u2 (Ky ts)/\Je Vv w'' w''.heap.size u3 (pT ns ts rs))/\Below w.heap.size w w'
theorem Pf{w w':World}{N base:Nat}{e:TypeId}{size:Nat}{v:Value}{n:Nat}{xs:List Value}(h:w.ownsRow base e size v n xs)(hN:N<=base)(hw:∀ b,N<=b->b<w.heap.size->w'.heap[b]? = w.heap[b]?):w'.ownsRow base e size v n xs:=by
 refine⟨h.1,?_⟩;rcases h.2 with h' | ⟨g,cap,cur,rfl,hg,hh,r⟩
 ·exact .inl h'
 ·exact .inr ⟨g,cap,cur,rfl,hg,(hw g (Yb hN hg) (gl hh)).trans hh,r⟩
theorem du{w w':World}{N base:Nat}{t:TypeId}{v:Value}{xs:List Int}(h:Nl aA t w base v xs)(hN:N<=base)(hw:∀ b,N<=b->b<w.heap.size->w'.heap[b]? = w.heap[b]?):Nl aA t w' base v xs:=by
 obtain⟨css,h1,h2,h3⟩:=h;exact⟨css,Pf h1 hN hw,h2,h3⟩
theorem xM{w w':World}{N base:Nat}{t:TypeId}{v:Value}{xs:List Jo}(h:Nl aY t w base v xs)(hN:N<=base)(hw:∀ b,N<=b->b<w.heap.size->w'.heap[b]? = w.heap[b]?):Nl aY t w' base v xs:=by
 obtain⟨css,h1,h2,h3⟩:=h;refine⟨css,Pf h1 hN hw,h2,fun i cs x hc hx=>?_⟩;obtain⟨c1,c2,e,r1,u,e2,r2⟩:=h3 i cs x hc hx;exact⟨c1,c2,e,r1,u,e2,du r2 hN hw⟩
theorem Q_(v1 v2 v3:Value)(ns ts:List Wd)(rs:List Jo)(w:World)(hg:Ik (ns.map Jp,ts.map Jp,rs))(h1:Je Nk w w.heap.size v1 (ns.map Jp))(h2:Je Nk w w.heap.size v2 (ts.map Jp))(h3:Je Vv w w.heap.size v3 rs) :
  Calls Tryz.prog 29 #[.agg #[v1,v2,v3]] w (zuM ns ts rs w):=by
 obtain⟨A1,c1,rfl,uD,wT⟩:=h1.form;obtain⟨A2,c2,rfl,hb1,Ja⟩:=h2.form;obtain⟨A3,c3,rfl,jR,jQ⟩:=h3.form;unfold maxLen at wT Ja jQ;simp only[Qk] at h1 h2 uD hb1 |-;have qA:=Lh hg;have H1:=Lh h1;have H2:=Lh h2;have H3:=Lh h3;clear h1 h2 h3 hg;obtain⟨n,yf⟩:=Xe ns.length;obtain⟨m,hmm⟩:=Xe ts.length;obtain⟨q,hqq⟩:=Xe rs.length;rw[<-yf] at H1 uD |-;rw[<-hmm] at H2 hb1 |-;rw[<-hqq] at H3 jR |-;have qV:=Lh yf;have nK:=Lh hmm;have HQQ:=Lh hqq;have hnm:n+m<=256:=by have:=qA.o.nm;simp only[Qk] at this;omega
 have hn1:1<=n:=by have:=qA.o.n1;simp only[Qk] at this;omega
 have hq4:q<=4096:=by have:=qA.o.q;simp only at this;omega
 clear yf hmm hqq;obtain⟨S,hS⟩:=Xe w.heap.size;have HS:=Lh hS;have HB1:=Lh (show Below S w ((w.alloc (.cells #[.slice A1 n c1,.slice A2 m c2,.slice A3 q c3] 25)).alloc (.cells #[.slice none 0 0,.slice none 0 0,.slice none 0 0] 25)) from
  ((Xr S w).alloc (Yi hS) _).alloc (by rw[Xs];omega) _)
 have HG1:=Lh (show ((w.alloc (.cells #[.slice A1 n c1,.slice A2 m c2,.slice A3 q c3] 25)).alloc (.cells #[.slice none 0 0,.slice none 0 0,.slice none 0 0] 25)).heap[S]? = some (.cells #[.slice A1 n c1,.slice A2 m c2,.slice A3 q c3] 25 (0,0)) by
  rw[Ze _ _ _ (by rw[Xs];omega),hS]
  exact Xn w _)
 have HR1:=Lh (show ((w.alloc (.cells #[.slice A1 n c1,.slice A2 m c2,.slice A3 q c3] 25)).alloc (.cells #[.slice none 0 0,.slice none 0 0,.slice none 0 0] 25)).heap[S+1]? = some (.cells #[.slice none 0 0,.slice none 0 0,.slice none 0 0] 25 (0,0)) by
  have:=Xn (w.alloc (.cells #[.slice A1 n c1,.slice A2 m c2,.slice A3 q c3] 25)) (.cells #[.slice none 0 0,.slice none 0 0,.slice none 0 0] 25)
  rwa [Xs,<-hS] at this)
 rw[<-hS] at H1 H2 H3;have qoW:=Lh (fun(W:World)(hb:Below S w W)(hs:S<=W.heap.size)=>Tc (.slice A1 n c1) (.slice A2 m c2) (.slice A3 q c3) (ns.map Jp) (ts.map Jp) rs W (by simp only[Qk];rw[<-qV.o,<-nK.o];omega) (H1.o.fut hb (Ya _) hs) (H2.o.fut hb (Ya _) hs) (H3.o.fut hb (Ya _) hs));go_enter Tryz.func29,Tryz.ntmps29;go_wp2_with fail;rw[<-hS];clear hS;generalize (w.alloc (.cells #[.slice A1 n c1,.slice A2 m c2,.slice A3 q c3] 25)).alloc (.cells #[.slice none 0 0,.slice none 0 0,.slice none 0 0] 25)=w1 at *;have HZ1:=Lt (S+1<w1.heap.size) ((gl HR1.o));refine (qoW.o w1 HB1.o (by have:=HZ1.o;omega)).mono ?_;rintro e w2 ⟨rfl,Ja⟩;rw[(Fj _).2 qA.o];have HB2:=Lh (HB1.o.trans (Ja.mono (by have:=HZ1.o;omega)));have HG2:=Lh ((Ja.block S (by have:=HZ1.o;omega)).trans HG1.o);have HR2:=Lh ((Ja.block (S+1) HZ1.o).trans HR1.o);have HZ2:=Lh (Yd HZ1.o Ja.size);clear Ja HB1 HG1 HR1 HZ1 qoW;go_wp2_with fail;have iD:=Lt (w2.drew.heap[S]? = _) (HG2.o);have HR3:=Lt (w2.drew.heap[S+1]? = _) (HR2.o);have HB3:=Lt (Below S w w2.drew) (HB2.o.drew);have wU:=Lt (S+1<w2.drew.heap.size) (HZ2.o);clear HG2 HR2 HB2 HZ2;refine TextU.wp_anyInv (fun L a' w'=>∃ x3 x16 x17 x18 x19 x20 x21 x22:Value,a'=⟨List.toArray (.agg #[.slice A1 n c1,.slice A2 m c2,.slice A3 q c3]::.pointer (some ⟨S,0,none⟩)::.pointer (some ⟨S+1,0,none⟩)::x3::undef::undef::undef::undef::undef::undef::undef::undef::.agg #[.slice A1 n c1,.slice A2 m c2,.slice A3 q c3]::.bool true::.bool false::undef::x16::x17::x18::x19::x20::x21::x22::undef::undef::undef::undef::undef::undef::undef::undef::undef::undef::undef::undef::undef::undef::undef::undef::undef::undef::undef::undef::undef::undef::undef::undef::undef::undef::undef::undef::undef::undef::undef::undef::undef::undef::undef::undef::undef::undef::undef::undef::undef::undef::undef::undef::undef::undef::undef::undef::undef::undef::undef::undef::undef::undef::undef::undef::undef::[]),[]⟩/\Hid (Below w2.drew.heap.size w2.drew w')/\(L 0=true->x16=.pointer (some ⟨S,0,none⟩))/\(L 1=true->x17=.slice A1 n c1)/\(L 2=true->w'.ownsRow w2.drew.heap.size 9 1 x18 n (Jf ns))/\(L 3=true->x19=.pointer (some ⟨S,1,none⟩))/\(L 4=true->x20=.slice A2 m c2)/\(L 5=true->kV w' w2.drew.heap.size x18 x21 m (Jf ts))/\(L 6=true->x22=.agg #[x18,x21,.slice none 0 0]) /\
  (L 7=true->L 8=false->Il w' w2.drew.heap.size x3 #[.slice none 0 0,.slice none 0 0,.slice none 0 0] 25) /\
  (L 8=true->Il w' w2.drew.heap.size x3 #[x18,x21,.slice none 0 0] 25)/\Hid (L 6=true->L 2=true/\L 5=true)/\Hid (L 8=true->L 7=true/\L 6=true)/\Hid (L 5=true->L 2=true)) (by kernel_rfl) (by kernel_rfl) ?_ ?_ ?_
 ·exact⟨undef,undef,undef,undef,undef,undef,undef,undef,rfl,Xr _ _,by simp,by simp,by simp,by simp,by simp,by simp,by simp,by simp,by simp,by simp[Hid],by simp[Hid],by simp[Hid]⟩
 ·have sq:=Lh (show ∀ W,Below w2.drew.heap.size w2.drew W->Calls Tryz.prog 74 #[.slice A1 n c1] W (ja W ns) from fun W hb=>by
   have h:=mX A1 c1 ns W (qrQ (by
    have:=H1.o.fut (HB3.o.trans (hb.mono (show S<=w2.drew.heap.size by have:=wU.o;omega))) (Ya _) (B':=W.heap.size) (Yb (show S<=w2.drew.heap.size by have:=wU.o;omega) hb.size)
    rwa [qV.o] at this)) (by rw[<-qV.o];omega)
   rwa [<-qV.o] at h)
  have wX:=Lh (show ∀ W,Below w2.drew.heap.size w2.drew W->Calls Tryz.prog 74 #[.slice A2 m c2] W (ja W ts) from fun W hb=>by
   have h:=mX A2 c2 ts W (qrQ (by
    have:=H2.o.fut (HB3.o.trans (hb.mono (show S<=w2.drew.heap.size by have:=wU.o;omega))) (Ya _) (B':=W.heap.size) (Yb (show S<=w2.drew.heap.size by have:=wU.o;omega) hb.size)
    rwa [nK.o] at this)) (by rw[<-nK.o];omega)
   rwa [<-nK.o] at h)
  generalize w2.drew=w3 at *;intro j o L a' w' hj hL hd hJ J' Q' hJ' hQ';have HJ:=Lh hJ';clear hJ';have hj9:j<9:=(Qj.1 hj).1;obtain⟨x3,x16,x17,x18,x19,x20,x21,x22,rfl,HB,f0,f1,f2,f3,f4,f5,f6,f7,f8,f9,f10,f11⟩:=hJ;obtain rfl | rfl | rfl | rfl | rfl | rfl | rfl | rfl | rfl:j=0\/j=1\/j=2\/j=3\/j=4\/j=5\/j=6\/j=7\/j=8:=by omega
  all_goals
   injection hj with hj;subst hj
  ·go_wp2_with fail;refine HJ.o _ _ _ ⟨_,_,_,_,_,_,_,_,rfl,HB,?_,?_,?_,?_,?_,?_,?_,?_,?_,?_,?_,?_⟩
   all_goals first | exact fun _=>rfl | exact fun h=>Xo (f11.o (Xb h)) | (intro h;replace h:=Xb h;first | exact f0 h | exact f1 h | exact f2 h | exact f3 h | exact f4 h | exact f5 h | exact f6 h | exact f8 h) | exact fun h h'=>f7 (Xb h) (TextU.andL_off h') | exact fun h=>⟨Xo (f9.o (Xb h)).1,Xo (f9.o (Xb h)).2⟩ | exact fun h=>⟨Xo (f10.o (Xb h)).1,Xo (f10.o (Xb h)).2⟩
  ·obtain rfl:=f0 (hd ⟨0,.data⟩ (by simp) rfl);have hc:w'.cell? ⟨S,0,none⟩=some (.slice A1 n c1):=by rw[Zc _ _ _ _ _ _ ((HB.o.block S (by have:=wU.o;omega)).trans iD.o)];rfl
   go_wp2_with fail;refine HJ.o _ _ _ ⟨_,_,_,_,_,_,_,_,rfl,HB,?_,?_,?_,?_,?_,?_,?_,?_,?_,?_,?_,?_⟩
   all_goals first | exact fun _=>rfl | exact fun h=>Xo (f11.o (Xb h)) | (intro h;replace h:=Xb h;first | exact f0 h | exact f1 h | exact f2 h | exact f3 h | exact f4 h | exact f5 h | exact f6 h | exact f8 h) | exact fun h h'=>f7 (Xb h) (TextU.andL_off h') | exact fun h=>⟨Xo (f9.o (Xb h)).1,Xo (f9.o (Xb h)).2⟩ | exact fun h=>⟨Xo (f10.o (Xb h)).1,Xo (f10.o (Xb h)).2⟩
  ·obtain rfl:=f1 (hd ⟨1,.data⟩ (by simp) rfl);have HC:=Lh (sq.o w' HB.o);go_wp2_with fail;refine HC.o.mono ?_;rintro e w'' ⟨v,rfl,ho,hb⟩;have HBX:=Lh (HB.o.trans (hb.mono HB.o.size));have g:=Fr ho HB.o.size;rw[<-qV.o] at g;have G:=Lh g;have f7:=fun h h'=>Uz (f7 h h') hb;have f8:=fun h=>Uz (f8 h) hb;clear ho hb g;go_wp2_with fail;refine HJ.o _ _ _ ⟨_,_,_,_,_,_,_,_,rfl,HBX.o,?_,?_,?_,?_,?_,?_,?_,?_,?_,?_,?_,?_⟩
   all_goals first | exact fun _=>rfl | exact fun h=>Xo (f11.o (Xb h)) | exact fun _=>G.o | exact fun h=>absurd (f11.o (Xb h)) (by rw[hL];decide) | exact fun h=>absurd (f9.o (Xb h)).1 (by rw[hL];decide) | exact fun h=>absurd (f9.o (f10.o (Xb h)).2).1 (by rw[hL];decide) | (intro h;replace h:=Xb h;first | exact f0 h | exact f1 h | exact f2 h | exact f3 h | exact f4 h | exact f5 h | exact f6 h | exact f8 h) | exact fun h h'=>f7 (Xb h) (TextU.andL_off h') | exact fun h=>⟨Xo (f9.o (Xb h)).1,Xo (f9.o (Xb h)).2⟩ | exact fun h=>⟨Xo (f10.o (Xb h)).1,Xo (f10.o (Xb h)).2⟩
  ·go_wp2_with fail;refine HJ.o _ _ _ ⟨_,_,_,_,_,_,_,_,rfl,HB,?_,?_,?_,?_,?_,?_,?_,?_,?_,?_,?_,?_⟩
   all_goals first | exact fun _=>rfl | exact fun h=>Xo (f11.o (Xb h)) | (intro h;replace h:=Xb h;first | exact f0 h | exact f1 h | exact f2 h | exact f3 h | exact f4 h | exact f5 h | exact f6 h | exact f8 h) | exact fun h h'=>f7 (Xb h) (TextU.andL_off h') | exact fun h=>⟨Xo (f9.o (Xb h)).1,Xo (f9.o (Xb h)).2⟩ | exact fun h=>⟨Xo (f10.o (Xb h)).1,Xo (f10.o (Xb h)).2⟩
  ·obtain rfl:=f3 (hd ⟨3,.data⟩ (by simp) rfl);have hc:w'.cell? ⟨S,1,none⟩=some (.slice A2 m c2):=by rw[Zc _ _ _ _ _ _ ((HB.o.block S (by have:=wU.o;omega)).trans iD.o)];rfl
   go_wp2_with fail;refine HJ.o _ _ _ ⟨_,_,_,_,_,_,_,_,rfl,HB,?_,?_,?_,?_,?_,?_,?_,?_,?_,?_,?_,?_⟩
   all_goals first | exact fun _=>rfl | exact fun h=>Xo (f11.o (Xb h)) | (intro h;replace h:=Xb h;first | exact f0 h | exact f1 h | exact f2 h | exact f3 h | exact f4 h | exact f5 h | exact f6 h | exact f8 h) | exact fun h h'=>f7 (Xb h) (TextU.andL_off h') | exact fun h=>⟨Xo (f9.o (Xb h)).1,Xo (f9.o (Xb h)).2⟩ | exact fun h=>⟨Xo (f10.o (Xb h)).1,Xo (f10.o (Xb h)).2⟩
  ·obtain rfl:=f4 (hd ⟨4,.data⟩ (by simp) rfl);have HC:=Lh (wX.o w' HB.o);go_wp2_with fail;refine HC.o.mono ?_;rintro e w'' ⟨v,rfl,ho,hb⟩;have HBX:=Lh (HB.o.trans (hb.mono HB.o.size));have l2:=hd ⟨2,.chain⟩ (by simp) rfl;have g:kV w'' w3.heap.size x18 v m (Jf ts):=⟨w'.heap.size,HB.o.size,fun k hk=>((f2 l2).lt k hk).2,by rw[<-nK.o] at ho;exact ho⟩;have G:=Lh g;have f2:=fun h=>Zy (f2 h) hb;have f7:=fun h h'=>Uz (f7 h h') hb;have f8:=fun h=>Uz (f8 h) hb;clear ho hb g;go_wp2_with fail;refine HJ.o _ _ _ ⟨_,_,_,_,_,_,_,_,rfl,HBX.o,?_,?_,?_,?_,?_,?_,?_,?_,?_,?_,?_,?_⟩
   all_goals first | exact fun _=>rfl | exact fun h=>Xo (f11.o (Xb h)) | exact fun _=>G.o | exact fun _=>Xo l2 | exact fun h=>absurd (f9.o (Xb h)).2 (by rw[hL];decide) | exact fun h=>absurd (f9.o (f10.o (Xb h)).2).2 (by rw[hL];decide) | (intro h;replace h:=Xb h;first | exact f0 h | exact f1 h | exact f2 h | exact f3 h | exact f4 h | exact f5 h | exact f6 h | exact f8 h) | exact fun h h'=>f7 (Xb h) (TextU.andL_off h') | exact fun h=>⟨Xo (f9.o (Xb h)).1,Xo (f9.o (Xb h)).2⟩ | exact fun h=>⟨Xo (f10.o (Xb h)).1,Xo (f10.o (Xb h)).2⟩
  ·obtain⟨B1,e1,rfl,_⟩:=Zo (f2 (hd ⟨2,.data⟩ (by simp) rfl));obtain⟨_,_,_,o5⟩:=f5 (hd ⟨5,.data⟩ (by simp) rfl);obtain⟨B2,e2,rfl,_⟩:=Zo o5;go_wp2_with fail;have HBX:=Lh HB.o;refine HJ.o _ _ _ ⟨_,_,_,_,_,_,_,_,rfl,HBX.o,?_,?_,?_,?_,?_,?_,?_,?_,?_,?_,?_,?_⟩
   all_goals first | exact fun _=>rfl | exact fun h=>Xo (f11.o (Xb h)) | exact fun _=>⟨Xo (hd ⟨2,.data⟩ (by simp) rfl),Xo (hd ⟨5,.data⟩ (by simp) rfl)⟩ | (intro h;replace h:=Xb h;first | exact f0 h | exact f1 h | exact f2 h | exact f3 h | exact f4 h | exact f5 h | exact f6 h | exact f8 h) | exact fun h h'=>f7 (Xb h) (TextU.andL_off h') | exact fun h=>⟨Xo (f9.o (Xb h)).1,Xo (f9.o (Xb h)).2⟩ | exact fun h=>⟨Xo (f10.o (Xb h)).1,Xo (f10.o (Xb h)).2⟩
  ·have hb:Below w'.heap.size w' (w'.alloc (.cells #[.slice none 0 0,.slice none 0 0,.slice none 0 0] 25)):=(Xr _ _).alloc (Ya _) _;have HBX:=Lh (HB.o.trans (hb.mono HB.o.size));have f2:=fun h=>Zy (f2 h) hb;have f5:=fun h=>vM (f5 h) (Jg.of_below hb);have Ss:=Lh (fu w' #[.slice none 0 0,.slice none 0 0,.slice none 0 0] 25 HB.o.size);clear hb;go_wp2_with fail;generalize w'.alloc (.cells #[.slice none 0 0,.slice none 0 0,.slice none 0 0] 25)=w5 at *;refine HJ.o _ _ _ ⟨_,_,_,_,_,_,_,_,rfl,HBX.o,?_,?_,?_,?_,?_,?_,?_,?_,?_,?_,?_,?_⟩
   all_goals first | exact fun _=>rfl | exact fun h=>Xo (f11.o (Xb h)) | exact fun _ _=>Ss.o | exact fun h=>absurd (f10.o (Xb h)).1 (by rw[hL];decide) | (intro h;replace h:=Xb h;first | exact f0 h | exact f1 h | exact f2 h | exact f3 h | exact f4 h | exact f5 h | exact f6 h | exact f8 h) | exact fun h h'=>f7 (Xb h) (TextU.andL_off h') | exact fun h=>⟨Xo (f9.o (Xb h)).1,Xo (f9.o (Xb h)).2⟩ | exact fun h=>⟨Xo (f10.o (Xb h)).1,Xo (f10.o (Xb h)).2⟩
  ·have l6:=hd ⟨6,.data⟩ (by simp) rfl;have l7:=hd ⟨7,.data⟩ (by simp) rfl;obtain⟨b,rfl,hbs,hbh⟩:=f7 l7 hL;obtain rfl:=f6 l6;have o2:=f2 (f9.o l6).1;obtain⟨M5,m51,m52,o5⟩:=f5 (f9.o l6).2;obtain⟨B1,e1,rfl,_⟩:=Zo o2;obtain⟨B2,e2,rfl,_⟩:=Zo o5;have ip:=Lh (Rg (ts:=[9]) (cs':=[Value.slice B1 n e1,.slice B2 m e2,.slice none 0 0].toArray) hbh (by decide));have O2:=Lh (Vi o2 ip.o (by simp));have O5:=Lh (vM (show kV w' w3.heap.size (.slice B1 n e1) (.slice B2 m e2) m (Jf ts) from ⟨M5,m51,m52,o5⟩) ip.o);have HST:=Lh (Ox (P:=Tryz.prog) (ty:=25) (vs:=[Value.slice B1 n e1,.slice B2 m e2,.slice none 0 0]) (v:=.agg #[.slice B1 n e1,.slice B2 m e2,.slice none 0 0]) rfl (by kernel_rfl) hbh rfl (by simp[Value.oneCell']));have HBX:=Lh (Zj HB.o hbs [Value.slice B1 n e1,.slice B2 m e2,.slice none 0 0].toArray);have HB8:=Lt (Il (w'.setRow b [Value.slice B1 n e1,.slice B2 m e2,.slice none 0 0].toArray) w3.heap.size (.pointer (some ⟨b,0,none⟩)) #[.slice B1 n e1,.slice B2 m e2,.slice none 0 0] 25) (⟨b,rfl,hbs,Zi _ _ _ _ _ _ hbh⟩);clear o2 o5;go_wp2_with (refine Zs none rfl ?_);refine Stop.go (Zn rfl 25 rfl rfl rfl HST.o ?_);generalize w'.setRow b [Value.slice B1 n e1,.slice B2 m e2,.slice none 0 0].toArray=w5 at *;generalize ha:Act.put _ _ _=z9;simp[Act.put] at ha;subst ha;go_wp2_with fail;refine HJ.o _ _ _ ⟨_,_,_,_,_,_,_,_,rfl,HBX.o,?_,?_,?_,?_,?_,?_,?_,?_,?_,?_,?_,?_⟩
   all_goals first | exact fun _=>rfl | exact fun h=>Xo (f11.o (Xb h)) | exact fun _=>O2.o | exact fun _=>O5.o | exact fun _ h'=>absurd h' (by rw[TextU.andL_self];decide) | exact fun _=>HB8.o | exact fun _=>⟨Xo l7,Xo l6⟩ | (intro h;replace h:=Xb h;first | exact f0 h | exact f1 h | exact f3 h | exact f4 h) | exact fun h=>⟨Xo (f9.o (Xb h)).1,Xo (f9.o (Xb h)).2⟩
 ·have HZW:=Lt (S+1<w2.drew.heap.size) (wU.o);generalize w2.drew=w3 at *;intro L a' w4 Uc hJ;obtain⟨x3,x16,x17,x18,x19,x20,x21,x22,rfl,HB,f0,f1,f2,f3,f4,f5,f6,f7,f8,f9,f10,f11⟩:=hJ;obtain rfl:=f0 (Uc 0 (by decide));obtain rfl:=f1 (Uc 1 (by decide));have HU:=Lh (f2 (Uc 2 (by decide)));obtain rfl:=f3 (Uc 3 (by decide));obtain rfl:=f4 (Uc 4 (by decide));obtain⟨MV,zfE,zfD,hv⟩:=f5 (Uc 5 (by decide));have HV:=Lh hv;have HMV:=Lh (And.intro zfE zfD);clear zfE zfD hv;obtain rfl:=f6 (Uc 6 (by decide));obtain⟨P,rfl,hPS,hP⟩:=f8 (Uc 8 (by decide));have HP:=Lh hP;clear f0 f1 f2 f3 f4 f5 f6 f7 f8 f9 f10 f11 hP Uc;obtain⟨B1,e1,rfl,wR,dD⟩:=Zo HU.o;obtain⟨B2,e2,rfl,hl3,hl4⟩:=Zo HV.o;unfold maxLen at dD hl4;obtain⟨x0,xs,hns⟩:∃ x0 xs,ns=x0::xs:=by
   cases hn:ns with
   |nil=>have:=qV.o;rw[hn] at this;simp at this;omega
   |cons a b=>exact⟨a,b,rfl⟩
  have HNS:=Lh hns;have hnx:n=xs.length+1:=by have:=qV.o;rw[hns] at this;simpa using this
  have HSO:=Lt (Calls Tryz.prog 75 #[.slice (if e1=1 then B1 else B1.map (·.add 1)) (n - 1) (e1 - 1)] w4 (D_ w3.heap.size B1 e1 x0 xs w4)) (by
   have h:=HU.o
   rw[hns,hnx] at h
   have:=dc w3.heap.size B1 e1 x0 xs w4 h (by omega)
   rw[hnx]
   exact this)
  have Vh:w4.cell? ⟨P,0,none⟩=some (.slice B1 n e1):=Xc HP.o rfl;clear hns hnx;go_step;go_step;go_step
  go_cut [25] (fun _ wx=>Hid (D_ w3.heap.size B1 e1 x0 xs w4 (.returned (.tuple #[])) wx))
  case first =>
   rcases Nat.lt_or_ge 1 e1 with he | he
   ·have h:=HSO.o;rw[if_neg (show ¬ e1=1 by omega)] at h;have HSO:=Lh h;have hne:¬ e1=1:=by omega
    clear h;go_wp2_with fail;refine HSO.o.mono ?_;rintro e w5 hT;obtain rfl:=hT.1;have HT:=Lh hT;clear hT;go_wp2_with fail
    go_meet
    exact HT.o
   ·obtain rfl:e1=1:=by omega
    have h:=HSO.o;rw[if_pos rfl] at h;obtain rfl:n=1:=by omega
    have HSO:=Lh h;clear h;go_wp2_with fail;refine HSO.o.mono ?_;rintro e w5 hT;obtain rfl:=hT.1;have HT:=Lh hT;clear hT;go_wp2_with fail
    go_meet
    exact HT.o
  case rest =>
   have hnx:n=xs.length+1:=by have:=qV.o;rw[HNS.o] at this;simpa using this
   have zgC:Di ns=x0::Ky xs:=by rw[HNS.o];rfl
   obtain⟨_,hu5,Lz⟩:=hcut.o;rw[<-zgC,<-hnx] at hu5;rw[<-hnx] at Lz;have HU5:=Lh hu5;have wA:=Lh (zH HV.o Lz fun k hk e=>by
    have h1:=HMV.o.2 k e
    have h2:=(HV.o.lt k hk).1
    omega)
   have HP5:=Lh (Zq HU.o Lz HP.o (by decide));have HB5:=Lh (Zt HB.o Lz HU.o (Ya _) HB.o.size);clear hu5 Lz hcut HSO HU HV HP Vh hnx zgC;generalize wc=w5 at *;have Nj:w5.cell? ⟨P,1,none⟩=some (.slice B2 m e2):=Xc HP5.o rfl;have HSO:=Lt (Calls Tryz.prog 75 #[.slice B2 m e2] w5 (qoO w5 MV (.slice B2 m e2) ts)) (kj MV (.slice B2 m e2) ts w5 (by have h:=wA.o;rw[nK.o] at h |-;exact h) (by rw[<-nK.o];omega));go_wp2_with fail;refine HSO.o.mono ?_;rintro e w6 ⟨rfl,hv6,Lz⟩;have HV6:=Lh (show w6.ownsRow MV 9 1 (.slice B2 m e2) m (Jf (Ky ts)) by rw[<-nK.o] at hv6;exact hv6);have HU6:=Lh (zH HU5.o Lz fun k hk e=>by
    have h1:=HMV.o.2 k hk
    have h2:=(wA.o.lt k e).1
    omega)
   have HP6:=Lh (Zq wA.o Lz HP5.o (by decide));have HB6:=Lh (Zt HB5.o Lz wA.o HMV.o.1 HB5.o.size);clear hv6 Lz HSO HU5 wA HP5 HB5 Nj;have HG6:=Lh ((HB6.o.block S (by have:=HZW.o;omega)).trans iD.o);have HR6:=Lh ((HB6.o.block (S+1) HZW.o).trans HR3.o);clear HB wU;go_wp2_with fail;have HBW:=Lh (show ∀ W,Below w6.drew.heap.size w6.drew W->Below S w W/\S<=W.heap.size/\Below w6.heap.size w6 W from fun W hb=>by
    have h1:S<=w3.heap.size:=by have:=HZW.o;omega
    have h2:Below w6.heap.size w6 W:=(Xr w6.heap.size w6).drew.trans hb
    have h3:Below S w W:=(HB3.o.trans (HB6.o.mono h1)).trans (h2.mono (Yb h1 HB6.o.size))
    exact⟨h3,Yb h1 (Yb HB6.o.size h2.size),h2⟩)
   have HSN:=Lt (Je eW w S (.slice A1 n c1) ns) (qrQ H1.o);have HST:=Lt (Je eW w S (.slice A2 m c2) ts) (qrQ H2.o);have HSU:=Lt (Je eW w6 w6.heap.size (.slice B1 n e1) (Di ns)) (by
    have hl:n=(Di ns).length:=by rw[qV.o,kB]
    have h:=HU6.o
    rw[hl] at h |-
    exact Io (fun x hx=>HSN.o.fits x ((Gn ns).mem_iff.1 hx)) (Rd.of_own h) (by rw[<-hl];exact wR) (by unfold maxLen;exact dD))
   have HSV:=Lt (Je eW w6 w6.heap.size (.slice B2 m e2) (Ky ts)) (by
    have hl:m=(Ky ts).length:=by rw[nK.o,Ba]
    have h:=HV6.o
    rw[hl] at h |-
    exact Io (fun x hx=>HST.o.fits x ((Nc ts).mem_iff.1 hx)) (Rd.of_own h) (by rw[<-hl];exact hl3) (by unfold maxLen;exact hl4))
   have HN1:=Lh (show ∀ W,Below w6.drew.heap.size w6.drew W->Calls Tryz.prog 76 #[.slice A1 n c1,.slice B1 n e1] W (qoQ ns (Di ns) W) from fun W hb=>by
    obtain⟨k1,k2,k3⟩:=HBW.o W hb
    exact oF _ _ ns (Di ns) W (HSN.o.fut k1 (Ya _) k2) (HSU.o.fut k3 (Ya _) k3.size) (fun x hx=>(Gn ns).mem_iff.2 hx) (by rw[<-qV.o];omega) (by rw[kB,<-qV.o];omega))
   have Ci:=Lh (show ∀ W,Below w6.drew.heap.size w6.drew W->Calls Tryz.prog 76 #[.slice A2 m c2,.slice B2 m e2] W (qoQ ts (Ky ts) W) from fun W hb=>by
    obtain⟨k1,k2,k3⟩:=HBW.o W hb
    exact oF _ _ ts (Ky ts) W (HST.o.fut k1 (Ya _) k2) (HSV.o.fut k3 (Ya _) k3.size) (fun x hx=>(Nc ts).mem_iff.2 hx) (by rw[<-nK.o];omega) (by rw[Ba,<-nK.o];omega))
   have HG0:=Lt (w6.drew.heap[S]? = _) (HG6.o);have HP0:=Lt (w6.drew.heap[P]? = _) (HP6.o);have HZ0:=Lt (S+1<w6.drew.heap.size) (Yd HZW.o HB6.o.size);have HPZ:=Lt (P<w6.drew.heap.size) ((gl HP0.o));obtain⟨W0,hW0⟩:=Xe w6.drew;rw[<-hW0] at HN1 Ci HG0 HP0 HZ0 HPZ;refine TextU.wp_anyInv (fun L a' w'=>∃ x4 x5 x30 x31 x32 x33 jg x35 x36 x37 x38 jf:Value,a'=⟨List.toArray (.agg #[.slice A1 n c1,.slice A2 m c2,.slice A3 q c3]::.pointer (some ⟨S,0,none⟩)::.pointer (some ⟨S+1,0,none⟩)::.pointer (some ⟨P,0,none⟩)::x4::x5::undef::undef::undef::undef::undef::undef::u12::u13::u14::u15::u16::u17::u18::u19::u20::u21::u22::u23::u24::u25::u26::.pointer (some ⟨P,1,none⟩)::.slice B2 m e2::.tuple #[]::x30::x31::x32::x33::jg::x35::x36::x37::x38::jf::u40::u41::undef::undef::undef::u45::u46::u47::u48::u49::u50::u51::u52::u53::undef::undef::undef::u57::u58::u59::u60::u61::u62::u63::u64::u65::u66::u67::u68::u69::u70::u71::u72::u73::u74::u75::u76::u77::u78::u79::[]),[]⟩/\Hid (Below W0.heap.size W0 w')/\(L 0=true->x30=.pointer (some ⟨S,0,none⟩))/\(L 1=true->x31=.slice A1 n c1)/\(L 2=true->x32=.pointer (some ⟨P,0,none⟩))/\(L 3=true->x33=.slice B1 n e1)/\(L 4=true->Nl aA 3 w' W0.heap.size jg (ns.map fun x=>(((Di ns).idxOf x:Nat):Int)))/\(L 5=true->x35=.pointer (some ⟨S,1,none⟩))/\(L 6=true->x36=.slice A2 m c2)/\(L 7=true->x37=.pointer (some ⟨P,1,none⟩))/\(L 8=true->x38=.slice B2 m e2)/\(L 9=true->Nl aA 3 w' W0.heap.size jf (ts.map fun x=>(((Ky ts).idxOf x:Nat):Int)))/\(L 10=true->L 12=false->Il w' W0.heap.size x4 #[.slice none 0 0] 61)/\(L 11=true->L 13=false->Il w' W0.heap.size x5 #[.slice none 0 0] 61)/\(L 12=true->Il w' W0.heap.size x4 #[jg] 61)/\(L 13=true->Il w' W0.heap.size x5 #[jf] 61)/\Hid (L 10=true->L 11=true->x4≠x5)/\Hid (L 12=true->L 10=true/\L 4=true/\L 11=true/\L 9=true)/\Hid (L 13=true->L 12=true)) (by kernel_rfl) (by kernel_rfl) (by rw[<-hW0];exact⟨undef,undef,u30,u31,u32,u33,u34,u35,u36,u37,u38,u39,rfl,Xr _ _,by simp,by simp,by simp,by simp,by simp,by simp,by simp,by simp,by simp,by simp,by simp,by simp,by simp,by simp,by simp[Hid],by simp[Hid],by simp[Hid]⟩) ?_ ?_
   ·intro j o L a' w' hj hL hd hJ J' Q' hJ' hQ';have HJ:=Lh hJ';clear hJ';have hj14:j<14:=(Qj.1 hj).1;obtain⟨x4,x5,x30,x31,x32,x33,jg,x35,x36,x37,x38,jf,rfl,HB,f0,f1,f2,f3,f4,f5,f6,f7,f8,f9,f10,f11,f12,f13,fd,fi,fj⟩:=hJ;obtain rfl | rfl | rfl | rfl | rfl | rfl | rfl | rfl | rfl | rfl | rfl | rfl | rfl | rfl:j=0\/j=1\/j=2\/j=3\/j=4\/j=5\/j=6\/j=7\/j=8\/j=9\/j=10\/j=11\/j=12\/j=13:=by omega
    all_goals
     injection hj with hj;subst hj
    ·skip
     have HBX:=Lh HB.o;go_wp2_with fail;refine HJ.o _ _ _ ⟨_,_,_,_,_,_,_,_,_,_,_,_,rfl,HBX.o,?_,?_,?_,?_,?_,?_,?_,?_,?_,?_,?_,?_,?_,?_,?_,?_,?_⟩
     all_goals first | exact fun _=>rfl | (intro h;replace h:=Xb h;first | exact f0 h | exact f1 h | exact f2 h | exact f3 h | exact f4 h | exact f5 h | exact f6 h | exact f7 h | exact f8 h | exact f9 h | exact f12 h | exact f13 h) | exact fun h h'=>f10 (Xb h) (TextU.andL_off h') | exact fun h h'=>f11 (Xb h) (TextU.andL_off h') | exact fun h h'=>fd.o (Xb h) (Xb h') | exact fun h=>⟨Xo (fi.o (Xb h)).1,Xo (fi.o (Xb h)).2.1,Xo (fi.o (Xb h)).2.2.1,Xo (fi.o (Xb h)).2.2.2⟩ | exact fun h=>Xo (fj.o (Xb h))
    ·obtain rfl:=f0 (hd ⟨0,.data⟩ (by simp) rfl);have hc:w'.cell? ⟨S,0,none⟩=some (.slice A1 n c1):=by rw[Zc _ _ _ _ _ _ ((HB.o.block S (by have:=HZ0.o;omega)).trans HG0.o)];rfl
     have HBX:=Lh HB.o;go_wp2_with fail;refine HJ.o _ _ _ ⟨_,_,_,_,_,_,_,_,_,_,_,_,rfl,HBX.o,?_,?_,?_,?_,?_,?_,?_,?_,?_,?_,?_,?_,?_,?_,?_,?_,?_⟩
     all_goals first | exact fun _=>rfl | (intro h;replace h:=Xb h;first | exact f0 h | exact f1 h | exact f2 h | exact f3 h | exact f4 h | exact f5 h | exact f6 h | exact f7 h | exact f8 h | exact f9 h | exact f12 h | exact f13 h) | exact fun h h'=>f10 (Xb h) (TextU.andL_off h') | exact fun h h'=>f11 (Xb h) (TextU.andL_off h') | exact fun h h'=>fd.o (Xb h) (Xb h') | exact fun h=>⟨Xo (fi.o (Xb h)).1,Xo (fi.o (Xb h)).2.1,Xo (fi.o (Xb h)).2.2.1,Xo (fi.o (Xb h)).2.2.2⟩ | exact fun h=>Xo (fj.o (Xb h))
    ·skip
     have HBX:=Lh HB.o;go_wp2_with fail;refine HJ.o _ _ _ ⟨_,_,_,_,_,_,_,_,_,_,_,_,rfl,HBX.o,?_,?_,?_,?_,?_,?_,?_,?_,?_,?_,?_,?_,?_,?_,?_,?_,?_⟩
     all_goals first | exact fun _=>rfl | (intro h;replace h:=Xb h;first | exact f0 h | exact f1 h | exact f2 h | exact f3 h | exact f4 h | exact f5 h | exact f6 h | exact f7 h | exact f8 h | exact f9 h | exact f12 h | exact f13 h) | exact fun h h'=>f10 (Xb h) (TextU.andL_off h') | exact fun h h'=>f11 (Xb h) (TextU.andL_off h') | exact fun h h'=>fd.o (Xb h) (Xb h') | exact fun h=>⟨Xo (fi.o (Xb h)).1,Xo (fi.o (Xb h)).2.1,Xo (fi.o (Xb h)).2.2.1,Xo (fi.o (Xb h)).2.2.2⟩ | exact fun h=>Xo (fj.o (Xb h))
    ·obtain rfl:=f2 (hd ⟨2,.data⟩ (by simp) rfl);have hc:w'.cell? ⟨P,0,none⟩=some (.slice B1 n e1):=Xc ((HB.o.block P HPZ.o).trans HP0.o) rfl;have HBX:=Lh HB.o;go_wp2_with fail;refine HJ.o _ _ _ ⟨_,_,_,_,_,_,_,_,_,_,_,_,rfl,HBX.o,?_,?_,?_,?_,?_,?_,?_,?_,?_,?_,?_,?_,?_,?_,?_,?_,?_⟩
     all_goals first | exact fun _=>rfl | (intro h;replace h:=Xb h;first | exact f0 h | exact f1 h | exact f2 h | exact f3 h | exact f4 h | exact f5 h | exact f6 h | exact f7 h | exact f8 h | exact f9 h | exact f12 h | exact f13 h) | exact fun h h'=>f10 (Xb h) (TextU.andL_off h') | exact fun h h'=>f11 (Xb h) (TextU.andL_off h') | exact fun h h'=>fd.o (Xb h) (Xb h') | exact fun h=>⟨Xo (fi.o (Xb h)).1,Xo (fi.o (Xb h)).2.1,Xo (fi.o (Xb h)).2.2.1,Xo (fi.o (Xb h)).2.2.2⟩ | exact fun h=>Xo (fj.o (Xb h))
    ·obtain rfl:=f1 (hd ⟨1,.data⟩ (by simp) rfl);obtain rfl:=f3 (hd ⟨3,.data⟩ (by simp) rfl);have HC:=Lh (HN1.o w' HB.o);go_wp2_with fail;refine HC.o.mono ?_;rintro e w'' ⟨v,rfl,ho,hb⟩;have HBX:=Lh (HB.o.trans (hb.mono HB.o.size));have G:=Lh (ho.more HB.o.size);have f9:=fun h=>(f9 h).below hb;have f10:=fun h h'=>Uz (f10 h h') hb;have f11:=fun h h'=>Uz (f11 h h') hb;have f12:=fun h=>Uz (f12 h) hb;have f13:=fun h=>Uz (f13 h) hb;clear ho hb;go_wp2_with fail;refine HJ.o _ _ _ ⟨_,_,_,_,_,_,_,_,_,_,_,_,rfl,HBX.o,?_,?_,?_,?_,?_,?_,?_,?_,?_,?_,?_,?_,?_,?_,?_,?_,?_⟩
     all_goals first | exact fun _=>rfl | exact fun _=>G.o | exact fun h=>absurd (fi.o (Xb h)).2.1 (by rw[hL];decide) | exact fun h=>absurd (fi.o (fj.o (Xb h))).2.1 (by rw[hL];decide) | (intro h;replace h:=Xb h;first | exact f0 h | exact f1 h | exact f2 h | exact f3 h | exact f4 h | exact f5 h | exact f6 h | exact f7 h | exact f8 h | exact f9 h | exact f12 h | exact f13 h) | exact fun h h'=>f10 (Xb h) (TextU.andL_off h') | exact fun h h'=>f11 (Xb h) (TextU.andL_off h') | exact fun h h'=>fd.o (Xb h) (Xb h') | exact fun h=>⟨Xo (fi.o (Xb h)).1,Xo (fi.o (Xb h)).2.1,Xo (fi.o (Xb h)).2.2.1,Xo (fi.o (Xb h)).2.2.2⟩ | exact fun h=>Xo (fj.o (Xb h))
    ·skip
     have HBX:=Lh HB.o;go_wp2_with fail;refine HJ.o _ _ _ ⟨_,_,_,_,_,_,_,_,_,_,_,_,rfl,HBX.o,?_,?_,?_,?_,?_,?_,?_,?_,?_,?_,?_,?_,?_,?_,?_,?_,?_⟩
     all_goals first | exact fun _=>rfl | (intro h;replace h:=Xb h;first | exact f0 h | exact f1 h | exact f2 h | exact f3 h | exact f4 h | exact f5 h | exact f6 h | exact f7 h | exact f8 h | exact f9 h | exact f12 h | exact f13 h) | exact fun h h'=>f10 (Xb h) (TextU.andL_off h') | exact fun h h'=>f11 (Xb h) (TextU.andL_off h') | exact fun h h'=>fd.o (Xb h) (Xb h') | exact fun h=>⟨Xo (fi.o (Xb h)).1,Xo (fi.o (Xb h)).2.1,Xo (fi.o (Xb h)).2.2.1,Xo (fi.o (Xb h)).2.2.2⟩ | exact fun h=>Xo (fj.o (Xb h))
    ·obtain rfl:=f5 (hd ⟨5,.data⟩ (by simp) rfl);have hc:w'.cell? ⟨S,1,none⟩=some (.slice A2 m c2):=by rw[Zc _ _ _ _ _ _ ((HB.o.block S (by have:=HZ0.o;omega)).trans HG0.o)];rfl
     have HBX:=Lh HB.o;go_wp2_with fail;refine HJ.o _ _ _ ⟨_,_,_,_,_,_,_,_,_,_,_,_,rfl,HBX.o,?_,?_,?_,?_,?_,?_,?_,?_,?_,?_,?_,?_,?_,?_,?_,?_,?_⟩
     all_goals first | exact fun _=>rfl | (intro h;replace h:=Xb h;first | exact f0 h | exact f1 h | exact f2 h | exact f3 h | exact f4 h | exact f5 h | exact f6 h | exact f7 h | exact f8 h | exact f9 h | exact f12 h | exact f13 h) | exact fun h h'=>f10 (Xb h) (TextU.andL_off h') | exact fun h h'=>f11 (Xb h) (TextU.andL_off h') | exact fun h h'=>fd.o (Xb h) (Xb h') | exact fun h=>⟨Xo (fi.o (Xb h)).1,Xo (fi.o (Xb h)).2.1,Xo (fi.o (Xb h)).2.2.1,Xo (fi.o (Xb h)).2.2.2⟩ | exact fun h=>Xo (fj.o (Xb h))
    ·skip
     have HBX:=Lh HB.o;go_wp2_with fail;refine HJ.o _ _ _ ⟨_,_,_,_,_,_,_,_,_,_,_,_,rfl,HBX.o,?_,?_,?_,?_,?_,?_,?_,?_,?_,?_,?_,?_,?_,?_,?_,?_,?_⟩
     all_goals first | exact fun _=>rfl | (intro h;replace h:=Xb h;first | exact f0 h | exact f1 h | exact f2 h | exact f3 h | exact f4 h | exact f5 h | exact f6 h | exact f7 h | exact f8 h | exact f9 h | exact f12 h | exact f13 h) | exact fun h h'=>f10 (Xb h) (TextU.andL_off h') | exact fun h h'=>f11 (Xb h) (TextU.andL_off h') | exact fun h h'=>fd.o (Xb h) (Xb h') | exact fun h=>⟨Xo (fi.o (Xb h)).1,Xo (fi.o (Xb h)).2.1,Xo (fi.o (Xb h)).2.2.1,Xo (fi.o (Xb h)).2.2.2⟩ | exact fun h=>Xo (fj.o (Xb h))
    ·obtain rfl:=f7 (hd ⟨7,.data⟩ (by simp) rfl);have hc:w'.cell? ⟨P,1,none⟩=some (.slice B2 m e2):=Xc ((HB.o.block P HPZ.o).trans HP0.o) rfl;have HBX:=Lh HB.o;go_wp2_with fail;refine HJ.o _ _ _ ⟨_,_,_,_,_,_,_,_,_,_,_,_,rfl,HBX.o,?_,?_,?_,?_,?_,?_,?_,?_,?_,?_,?_,?_,?_,?_,?_,?_,?_⟩
     all_goals first | exact fun _=>rfl | (intro h;replace h:=Xb h;first | exact f0 h | exact f1 h | exact f2 h | exact f3 h | exact f4 h | exact f5 h | exact f6 h | exact f7 h | exact f8 h | exact f9 h | exact f12 h | exact f13 h) | exact fun h h'=>f10 (Xb h) (TextU.andL_off h') | exact fun h h'=>f11 (Xb h) (TextU.andL_off h') | exact fun h h'=>fd.o (Xb h) (Xb h') | exact fun h=>⟨Xo (fi.o (Xb h)).1,Xo (fi.o (Xb h)).2.1,Xo (fi.o (Xb h)).2.2.1,Xo (fi.o (Xb h)).2.2.2⟩ | exact fun h=>Xo (fj.o (Xb h))
    ·obtain rfl:=f6 (hd ⟨6,.data⟩ (by simp) rfl);obtain rfl:=f8 (hd ⟨8,.data⟩ (by simp) rfl);have HC:=Lh (Ci.o w' HB.o);go_wp2_with fail;refine HC.o.mono ?_;rintro e w'' ⟨v,rfl,ho,hb⟩;have HBX:=Lh (HB.o.trans (hb.mono HB.o.size));have G:=Lh (ho.more HB.o.size);have f4:=fun h=>(f4 h).below hb;have f10:=fun h h'=>Uz (f10 h h') hb;have f11:=fun h h'=>Uz (f11 h h') hb;have f12:=fun h=>Uz (f12 h) hb;have f13:=fun h=>Uz (f13 h) hb;clear ho hb;go_wp2_with fail;refine HJ.o _ _ _ ⟨_,_,_,_,_,_,_,_,_,_,_,_,rfl,HBX.o,?_,?_,?_,?_,?_,?_,?_,?_,?_,?_,?_,?_,?_,?_,?_,?_,?_⟩
     all_goals first | exact fun _=>rfl | exact fun _=>G.o | exact fun h=>absurd (fi.o (Xb h)).2.2.2 (by rw[hL];decide) | exact fun h=>absurd (fi.o (fj.o (Xb h))).2.2.2 (by rw[hL];decide) | (intro h;replace h:=Xb h;first | exact f0 h | exact f1 h | exact f2 h | exact f3 h | exact f4 h | exact f5 h | exact f6 h | exact f7 h | exact f8 h | exact f9 h | exact f12 h | exact f13 h) | exact fun h h'=>f10 (Xb h) (TextU.andL_off h') | exact fun h h'=>f11 (Xb h) (TextU.andL_off h') | exact fun h h'=>fd.o (Xb h) (Xb h') | exact fun h=>⟨Xo (fi.o (Xb h)).1,Xo (fi.o (Xb h)).2.1,Xo (fi.o (Xb h)).2.2.1,Xo (fi.o (Xb h)).2.2.2⟩ | exact fun h=>Xo (fj.o (Xb h))
    ·have hb:Below w'.heap.size w' (w'.alloc (.cells #[.slice none 0 0] 61)):=(Xr _ _).alloc (Ya _) _;have HBX:=Lh (HB.o.trans (hb.mono HB.o.size));have Ss:=Lh (fu w' #[.slice none 0 0] 61 HB.o.size);have HD:=Lh (show L 11=true->Value.pointer (some ⟨w'.heap.size,0,none⟩)≠x5 from fun h=>by
      cases h13:L 13 with
      |true=>exact absurd (fi.o (fj.o h13)).1 (by rw[hL];decide)
      |false =>
       obtain⟨b,rfl,_,jj⟩:=f11 h h13
       intro e
       injection e with e
       injection e with e
       injection e with e
       have:=(gl jj)
       omega)
     have f4:=fun h=>(f4 h).below hb;have f9:=fun h=>(f9 h).below hb;have f11:=fun h h'=>Uz (f11 h h') hb;have f13:=fun h=>Uz (f13 h) hb;clear hb;go_wp2_with fail;generalize w'.alloc (.cells #[.slice none 0 0] 61)=w7 at *;refine HJ.o _ _ _ ⟨_,_,_,_,_,_,_,_,_,_,_,_,rfl,HBX.o,?_,?_,?_,?_,?_,?_,?_,?_,?_,?_,?_,?_,?_,?_,?_,?_,?_⟩
     all_goals first | exact fun _=>rfl | exact fun _ _=>Ss.o | exact fun h=>absurd (fi.o (Xb h)).1 (by rw[hL];decide) | exact fun _ h'=>HD.o (Xb h') | (intro h;replace h:=Xb h;first | exact f0 h | exact f1 h | exact f2 h | exact f3 h | exact f4 h | exact f5 h | exact f6 h | exact f7 h | exact f8 h | exact f9 h | exact f12 h | exact f13 h) | exact fun h h'=>f10 (Xb h) (TextU.andL_off h') | exact fun h h'=>f11 (Xb h) (TextU.andL_off h') | exact fun h h'=>fd.o (Xb h) (Xb h') | exact fun h=>⟨Xo (fi.o (Xb h)).1,Xo (fi.o (Xb h)).2.1,Xo (fi.o (Xb h)).2.2.1,Xo (fi.o (Xb h)).2.2.2⟩ | exact fun h=>Xo (fj.o (Xb h))
    ·have hb:Below w'.heap.size w' (w'.alloc (.cells #[.slice none 0 0] 61)):=(Xr _ _).alloc (Ya _) _;have HBX:=Lh (HB.o.trans (hb.mono HB.o.size));have Ss:=Lh (fu w' #[.slice none 0 0] 61 HB.o.size);have HD:=Lh (show L 10=true->x4≠Value.pointer (some ⟨w'.heap.size,0,none⟩) from fun h=>by
      cases h13:L 12 with
      |true=>exact absurd (fi.o h13).2.2.1 (by rw[hL];decide)
      |false =>
       obtain⟨b,rfl,_,jj⟩:=f10 h h13
       intro e
       injection e with e
       injection e with e
       injection e with e
       have:=(gl jj)
       omega)
     have f4:=fun h=>(f4 h).below hb;have f9:=fun h=>(f9 h).below hb;have f10:=fun h h'=>Uz (f10 h h') hb;have f12:=fun h=>Uz (f12 h) hb;clear hb;go_wp2_with fail;generalize w'.alloc (.cells #[.slice none 0 0] 61)=w7 at *;refine HJ.o _ _ _ ⟨_,_,_,_,_,_,_,_,_,_,_,_,rfl,HBX.o,?_,?_,?_,?_,?_,?_,?_,?_,?_,?_,?_,?_,?_,?_,?_,?_,?_⟩
     all_goals first | exact fun _=>rfl | exact fun _ _=>Ss.o | exact fun h=>absurd (fi.o (fj.o (Xb h))).2.2.1 (by rw[hL];decide) | exact fun h _=>HD.o (Xb h) | (intro h;replace h:=Xb h;first | exact f0 h | exact f1 h | exact f2 h | exact f3 h | exact f4 h | exact f5 h | exact f6 h | exact f7 h | exact f8 h | exact f9 h | exact f12 h | exact f13 h) | exact fun h h'=>f10 (Xb h) (TextU.andL_off h') | exact fun h h'=>f11 (Xb h) (TextU.andL_off h') | exact fun h h'=>fd.o (Xb h) (Xb h') | exact fun h=>⟨Xo (fi.o (Xb h)).1,Xo (fi.o (Xb h)).2.1,Xo (fi.o (Xb h)).2.2.1,Xo (fi.o (Xb h)).2.2.2⟩ | exact fun h=>Xo (fj.o (Xb h))
    ·
     have l10:=hd ⟨10,.data⟩ (by simp) rfl;have l4:=hd ⟨4,.data⟩ (by simp) rfl;have l11:=hd ⟨11,.phase⟩ (by simp) rfl;have l9:=hd ⟨9,.chain⟩ (by simp) rfl;have hne:=fd.o l10 l11;obtain⟨b,rfl,hbs,hbh⟩:=f10 l10 hL;have hx:jg.cells=[jg].toArray/\jg.oneCell'=true:=by
      obtain⟨A,c,e,_⟩:=(f4 l4).form;rw[e];exact⟨rfl,rfl⟩
     have f11:=fun h h'=>bp (f11 h h') hne (b:=b) [jg].toArray;have HST:=Lh (Ox (P:=Tryz.prog) (ty:=61) (vs:=[jg]) (v:=jg) hx.1 (by kernel_rfl) hbh rfl (by simp[hx.2]));have qM:=Rg (ts:=[3]) (cs':=[jg].toArray) hbh (by decide);have HBX:=Lh (Zj HB.o hbs [jg].toArray);have HB8:=Lt (Il (w'.setRow b [jg].toArray) W0.heap.size (.pointer (some ⟨b,0,none⟩)) #[jg] 61) (⟨b,rfl,hbs,Zi _ _ _ _ _ _ hbh⟩);have f4:=fun h=>(f4 h).keep qM;have f9:=fun h=>(f9 h).keep qM;clear qM;go_wp2_with (refine Zs none rfl ?_);refine Stop.go (Zn rfl 61 rfl rfl rfl HST.o ?_);generalize w'.setRow b [jg].toArray=w7 at *;generalize ha:Act.put _ _ _=z9;simp[Act.put] at ha;subst ha;go_wp2_with fail;refine HJ.o _ _ _ ⟨_,_,_,_,_,_,_,_,_,_,_,_,rfl,HBX.o,?_,?_,?_,?_,?_,?_,?_,?_,?_,?_,?_,?_,?_,?_,?_,?_,?_⟩
     all_goals first | exact fun _=>rfl | exact fun _=>HB8.o | exact fun _ h'=>absurd h' (by rw[TextU.andL_self];decide) | exact fun h=>absurd (fj.o (Xb h)) (by rw[hL];decide) | exact fun _=>⟨Xo l10,Xo l4,Xo l11,Xo l9⟩ | (intro h;replace h:=Xb h;first | exact f0 h | exact f1 h | exact f2 h | exact f3 h | exact f4 h | exact f5 h | exact f6 h | exact f7 h | exact f8 h | exact f9 h | exact f12 h | exact f13 h) | exact fun h h'=>f10 (Xb h) (TextU.andL_off h') | exact fun h h'=>f11 (Xb h) (TextU.andL_off h') | exact fun h h'=>fd.o (Xb h) (Xb h') | exact fun h=>⟨Xo (fi.o (Xb h)).1,Xo (fi.o (Xb h)).2.1,Xo (fi.o (Xb h)).2.2.1,Xo (fi.o (Xb h)).2.2.2⟩ | exact fun h=>Xo (fj.o (Xb h))
    ·
     have l12:=hd ⟨12,.chain⟩ (by simp) rfl;have l11:=hd ⟨11,.data⟩ (by simp) rfl;have l9:=hd ⟨9,.data⟩ (by simp) rfl;have hne:=fd.o (fi.o l12).1 l11;obtain⟨b,rfl,hbs,hbh⟩:=f11 l11 hL;have hx:jf.cells=[jf].toArray/\jf.oneCell'=true:=by
      obtain⟨A,c,e,_⟩:=(f9 l9).form;rw[e];exact⟨rfl,rfl⟩
     have f12:=fun h=>bp (f12 h) hne.symm (b:=b) [jf].toArray;have HST:=Lh (Ox (P:=Tryz.prog) (ty:=61) (vs:=[jf]) (v:=jf) hx.1 (by kernel_rfl) hbh rfl (by simp[hx.2]));have qM:=Rg (ts:=[3]) (cs':=[jf].toArray) hbh (by decide);have HBX:=Lh (Zj HB.o hbs [jf].toArray);have HB8:=Lt (Il (w'.setRow b [jf].toArray) W0.heap.size (.pointer (some ⟨b,0,none⟩)) #[jf] 61) (⟨b,rfl,hbs,Zi _ _ _ _ _ _ hbh⟩);have f4:=fun h=>(f4 h).keep qM;have f9:=fun h=>(f9 h).keep qM;clear qM;go_wp2_with (refine Zs none rfl ?_);refine Stop.go (Zn rfl 61 rfl rfl rfl HST.o ?_);generalize w'.setRow b [jf].toArray=w7 at *;generalize ha:Act.put _ _ _=z9;simp[Act.put] at ha;subst ha;go_wp2_with fail;refine HJ.o _ _ _ ⟨_,_,_,_,_,_,_,_,_,_,_,_,rfl,HBX.o,?_,?_,?_,?_,?_,?_,?_,?_,?_,?_,?_,?_,?_,?_,?_,?_,?_⟩
     all_goals first | exact fun _=>rfl | exact fun _=>HB8.o | exact fun _ h'=>absurd h' (by rw[TextU.andL_self];decide) | exact fun _ h'=>absurd (TextU.andL_off h') (by rw[l12];decide) | exact fun _=>Xo l12 | (intro h;replace h:=Xb h;first | exact f0 h | exact f1 h | exact f2 h | exact f3 h | exact f4 h | exact f5 h | exact f6 h | exact f7 h | exact f8 h | exact f9 h | exact f12 h | exact f13 h) | exact fun h h'=>f10 (Xb h) (TextU.andL_off h') | exact fun h h'=>f11 (Xb h) (TextU.andL_off h') | exact fun h h'=>fd.o (Xb h) (Xb h') | exact fun h=>⟨Xo (fi.o (Xb h)).1,Xo (fi.o (Xb h)).2.1,Xo (fi.o (Xb h)).2.2.1,Xo (fi.o (Xb h)).2.2.2⟩ | exact fun h=>Xo (fj.o (Xb h))
   ·intro L7 a' w7 Uc hJ;obtain⟨x4,x5,x30,x31,x32,x33,jg,x35,x36,x37,x38,jf,rfl,HB7,f0,f1,f2,f3,f4,f5,f6,f7,f8,f9,f10,f11,f12,f13,fd,fi,fj⟩:=hJ;have iL:=Lh (f4 (Uc 4 (by decide)));have HTL:=Lh (f9 (Uc 9 (by decide)));obtain⟨g4,rfl,hg4,hh4⟩:=f12 (Uc 12 (by decide));obtain⟨g5,rfl,aB,hh5⟩:=f13 (Uc 13 (by decide));have HH4:=Lh hh4;have HH5:=Lh hh5;have HGS:=Lh (And.intro hg4 aB);clear f0 f1 f2 f3 f4 f5 f6 f7 f8 f9 f10 f11 f12 f13 fd fi fj hh4 hh5 Uc HN1 Ci HG0 HP0 HZ0 HPZ hg4 aB;have HB8:=Lt (Below w6.heap.size w6 w7) (by
     have h:=HB7.o
     rw[hW0] at h
     exact (Xr w6.heap.size w6).drew.trans h)
    have ir:=Lt (w6.heap.size<=g4/\w6.heap.size<=g5) (by
     have h:=HGS.o
     rw[hW0] at h
     exact h)
    have HPW:=Lh (gl HP6.o);have hP7:=(HB8.o.block P (gl HP6.o)).trans HP6.o;have HP7:=Lh hP7;have HU7:=Lh (Zy HU6.o HB8.o);have HV7:=Lh (Zy HV6.o HB8.o);have sc:=Lh (HBW.o w7 (by have h:=HB7.o;rw[hW0] at h;exact h));have HR7:=Lh ((HB8.o.block (S+1) (gl HR6.o)).trans HR6.o);have HG7:=Lh ((HB8.o.block S (gl HG6.o)).trans HG6.o);have Uy:w7.cell? ⟨S,2,none⟩=some (.slice A3 q c3):=Xc HG7.o rfl;clear HB7 HGS HU6 HV6 HP6 HG6 HR6 HB6 hP7 HSU HSV iD HR3;go_wp2_with fail;have O_:=Lt (P<w6.heap.size/\P<w7.heap.size) (by
     have h1:=(gl HP7.o)
     refine⟨?_,h1⟩
     rcases Nat.lt_or_ge P w6.heap.size with h | h
     ·exact h
     ·exact absurd h (by have:=HPW.o;omega))
    have zuA:=Lh (show ∀(W:World)(x:Int),Ol P w7 W->Vp ns.length ts.length x->Calls Tryz.prog 77 #[.int .i64 x,.pointer (some ⟨g5,0,none⟩),.pointer (some ⟨g4,0,none⟩)] W fun e w'=>e=.returned (.int .i64 (Rt ns ts (Di ns) (Ky ts) x))/\W=w' from fun W x hk hx=>by
     have qM:Jg [3] w7 W:=⟨hk.size,fun g cur t ht hg=>(hk.block g (gl hg) (fun e=>by
      subst e
      rw[HP7.o] at hg
      injection hg with hg
      injection hg with _ hg
      subst hg
      exact absurd ht (by decide))).trans hg⟩
     have hb4:W.heap[g4]? = some (.cells #[jg] 61 (0,0)):=(hk.block g4 (gl HH4.o) (by have:=O_.o.1;have:=ir.o.1;omega)).trans HH4.o
     have hb5:W.heap[g5]? = some (.cells #[jf] 61 (0,0)):=(hk.block g5 (gl HH5.o) (by have:=O_.o.1;have:=ir.o.2;omega)).trans HH5.o
     have:=qkE g5 g4 jf jg _ _ W.heap.size x W (Xc hb5 rfl) (Xc hb4 rfl) (HTL.o.keep qM).sl (iL.o.keep qM).sl (by rw[Qk];exact hx.1) (by rw[Qk];exact hx.2) (by rw[Qk,<-nK.o];omega) (by rw[Qk,<-qV.o];omega)
     rw[qrK ns ts (Di ns) (Ky ts) hx] at this
     exact this)
    have HLC:=Lt (ce w7 P (.slice B1 n e1) (.slice B2 m e2) ((rs.take 0).map (Rz ns ts (Di ns) (Ky ts))) (.slice none 0 0) w7) (⟨HP7.o,Nl.nil _ _,⟨Ya _,rfl,rfl,rfl,fun _ _ _=>rfl⟩⟩);go_loopw [44] (fun v44 wr=>∃(k:Nat)(v3:Value),k<=q/\v44=.int .i64 k/\Hid (ce w7 P (.slice B1 n e1) (.slice B2 m e2) ((rs.take k).map (Rz ns ts (Di ns) (Ky ts))) v3 wr)) (fun v44 _=>q - (intOf v44).toNat);exact⟨0,_,by omega,rfl,HLC.o⟩;clear HLC Uy;obtain⟨k,v3,hk,rfl,HLC⟩:=hrel;by_cases Ji:k<q
    ·have Eu:k<rs.length:=by rw[<-HQQ.o];exact Ji
     have HBR:=Lt (Below S w wr) (sc.o.1.trans ⟨HLC.o.keep.os,HLC.o.keep.tape,HLC.o.keep.output,HLC.o.keep.size,fun j hj=>HLC.o.keep.block j (Yd hj sc.o.2.1) (by have:=hPS;have:=HZW.o;omega)⟩);have HSR:=Lh (Yb sc.o.2.1 HLC.o.keep.size);obtain⟨bb,off,cs,rfl,_,pM,Zx,Zm⟩:=(H3.o.fut HBR.o (Ya _) HSR.o).get Eu (by decide);obtain⟨v,rfl,Mi,Ib,Sc⟩:=Kq Zx;obtain⟨A5,c5,rfl,Ic,kX⟩:=Mi.form;unfold maxLen at kX;have dz:=Zm 0 _ rfl;have Cm:=Zm 1 _ rfl;simp only[show Vv.size=2 from rfl,Yp,<-Yx] at dz Cm;have wH:=Lh (qA.o.fit rs[k] (Qg Eu));have HSL:=Lh Mi;have HTK:=Lh (Qc Eu);clear Zm Zx Mi;obtain⟨r,hr⟩:=Xe (rs[k]);rw[<-hr] at dz Cm wH HSL HTK Ic Ib Sc;clear hr;obtain⟨p,hpe⟩:=Xe r.2.length;rw[<-hpe] at Cm HSL Ic;have HPP:=Lh hpe;clear hpe;have HFI:=Lt ((0<=r.1/\r.1<ns.length)/\r.2.length<=64/\∀ s∈r.2,Vp ns.length ts.length s) (by
      have h:=wH.o
      simp only[Qk] at h
      exact h)
     have HFB:=Lh (show ∀ s,Vp ns.length ts.length s->-9223372036854775808<=Rt ns ts (Di ns) (Ky ts) s/\Rt ns ts (Di ns) (Ky ts) s<=9223372036854775807 from fun s hs=>by
      have h:=qF (Gn ns) (Nc ts) hs
      unfold Vp at h
      have e1:=qV.o
      have e2:=nK.o
      omega)
     clear wH;have HS0:=Lt (Vp ns.length ts.length r.1) (⟨by have:=HFI.o.1.1;omega,HFI.o.1.2⟩);obtain⟨F,hF⟩:=Xe (Rt ns ts (Di ns) (Ky ts));have HRM:=Lh (show Rz ns ts (Di ns) (Ky ts) r=(F r.1,r.2.map F) by rw[hF];rfl);rw[<-hF] at HFB;have HCL:=Lh (show ∀(W:World)(x:Int),Ol P w7 W->Vp ns.length ts.length x->Calls Tryz.prog 77 #[.int .i64 x,.pointer (some ⟨g5,0,none⟩),.pointer (some ⟨g4,0,none⟩)] W fun e w'=>e=.returned (.int .i64 (F x))/\W=w' from fun W x h1 h2=>by rw[hF];exact zuA.o W x h1 h2);clear hF;have HKA:=Lh ((Xr wr.heap.size wr).alloc (Ya _) (.cells #[.int .i64 r.1,.slice A5 p c5] 63));have HRA:=Lh (Xn wr (.cells #[.int .i64 r.1,.slice A5 p c5] 63));have HZA:=Lh (Xs wr (.cells #[.int .i64 r.1,.slice A5 p c5] 63));have sq:=Lh (HCL.o _ r.1 (HLC.o.keep.trans (Ol.of_below HKA.o (Ya _))) HS0.o);go_wp2_with fail;refine sq.o.mono ?_;rintro e w8 ⟨rfl,rfl⟩;have HB0:=Lh (HFB.o r.1 HS0.o);generalize F r.1=M0 at *;clear sq;generalize wr.alloc (.cells #[.int .i64 r.1,.slice A5 p c5] 63)=w8 at *;obtain⟨b9,zg⟩:=Xe w8.heap.size;have HK9:=Lh ((Xr w8.heap.size w8).alloc (Ya _) (.cells #[.int .i64 M0,.slice none 0 0] 63));have HR9:=Lh (Xn w8 (.cells #[.int .i64 M0,.slice none 0 0] 63));have HA9:=Lh ((HK9.o.block wr.heap.size (by have:=HZA.o;omega)).trans HRA.o);have ca1:(w8.alloc (.cells #[.int .i64 M0,.slice none 0 0] 63)).cell? ⟨wr.heap.size,1,none⟩=some (.slice A5 p c5):=Xc HA9.o rfl;go_wp2_with fail;clear ca1;rw[<-zg] at HK9 HR9 |-;have HZ9:=Lt (wr.heap.size<b9) (by rw[zg];have:=HZA.o;omega);clear zg;generalize w8.alloc (.cells #[.int .i64 M0,.slice none 0 0] 63)=w9 at *;have HIN:=Lt (InC w8 b9 M0 ((r.2.take 0).map F) (.slice none 0 0) w9) (⟨HR9.o,Nl.nil _ _,HK9.o⟩);generalize wr=wo at *;go_loopw [56] (fun v56 wr=>∃(j:Nat)(v9:Value),j<=p/\v56=.int .i64 j/\Hid (InC w8 b9 M0 ((r.2.take j).map F) v9 wr)) (fun v56 _=>p - (intOf v56).toNat);exact⟨0,_,by omega,rfl,HIN.o⟩;clear HIN HK9 HR9;obtain⟨j,v9,hj,rfl,HIN⟩:=hrel;have io:=Lh (show ((r.2.take j).map F).length=j by rw[Qk,Qq];have:=HPP.o;omega);have HKO:=Lt (Below wo.heap.size wo wr) (HKA.o.trans (HIN.o.keep.mono (Yg HZ9.o)));by_cases Mn:j<p
     ·have yp:j<r.2.length:=by rw[<-HPP.o];exact Mn
      obtain⟨b7,o7,cs,rfl,_,_,Zx,Zm⟩:=(HSL.o.below HKO.o).get yp (by decide);obtain⟨rfl,Ft,eX⟩:=Zx;have zb:=Zm 0 _ rfl;simp only[show Wo.size=1 from rfl,Yr,Yp] at zb;clear Zm;have HSY:=Lh (HFI.o.2.2 r.2[j] (Qg yp));have zrY:=Lh (show (r.2.take (j+1)).map F=(r.2.take j).map F++[F r.2[j]] by rw[Qc yp,Qt,List.map_singleton]);generalize r.2[j]=s at *;obtain⟨A9,c9,hv9,qyA,znG⟩:=HIN.o.own.form;rw[io.o] at hv9 qyA;subst hv9;go_wp2_with fail;clear zb;have El:=HIN.o.row;have Ei:=Lt (wr.drew.cell? ⟨b9,1,none⟩=some (.slice A9 j c9)) (by rw[Zc wr.drew _ _ _ _ _ El];rfl);refine Gi (fun w'=>w'.cell? ⟨b9,1,none⟩=some (.slice A9 j c9)) [6] 9 (by kernel_rfl) rfl ?_;have quS:=Lt (InC w8 b9 M0 ((r.2.take j).map F) (.slice A9 j c9) wr.drew) (⟨HIN.o.row,HIN.o.own.below ((Xr wr.heap.size wr).drew),HIN.o.keep.drew⟩);have wV:=Lt (Below wo.heap.size wo wr.drew) (HKO.o.drew);clear HIN HKO El;generalize wr.drew=wd at *;refine Lg 0 (.pointer (some ⟨b9,1,none⟩)) rfl (by kernel_rfl) rfl (fun wq=>by go_simp) Ei.o ?_;generalize ha:Act.put _ _ _=z9;simp[Act.put] at ha;subst ha;refine jp 1 (.slice A9 j c9) rfl (by kernel_rfl) rfl (fun wq dW=>Wi rfl rfl (Et (e:=3) (by kernel_rfl) dW)) Ei.o ?_;generalize ha:Act.put _ _ _=z9;simp[Act.put] at ha;subst ha;refine Lg 2 (.func (.func 77) #[] #[.pointer (some ⟨g5,0,none⟩),.pointer (some ⟨g4,0,none⟩)]) rfl (by kernel_rfl) rfl (fun wq=>by go_simp) Ei.o ?_;generalize ha:Act.put _ _ _=z9;simp[Act.put] at ha;subst ha;refine Lg 3 (.int .i64 s) rfl (by kernel_rfl) rfl (fun wq=>by go_simp) Ei.o ?_;generalize ha:Act.put _ _ _=z9;simp[Act.put] at ha;subst ha;refine Jz (i:=4) (by kernel_rfl) rfl (fun Q' hQ'=>?_);go_wp2_with fail;refine (HCL.o wd s (HLC.o.keep.trans (Ol.of_below wV.o (Ya _))) HSY.o).mono ?_;rintro e w10 ⟨rfl,rfl⟩;have HBM:=Lh (HFB.o s HSY.o);generalize F s=M1 at *;go_wp2_with fail;refine⟨dv Ei.o,?_⟩;have HB3:=Lh ((Xr wd.heap.size wd).alloc (Ya _) (.cells #[.int .i64 M1] 3));have Ss:=Lh (Xn wd (.cells #[.int .i64 M1] 3));have ij:=Lt (wd.heap.size+1=(wd.alloc (.cells #[.int .i64 M1] 3)).heap.size) ((Xs _ _).symm);refine Jz (i:=5) (by kernel_rfl) rfl (fun Q' hQ'=>?_);go_wp2_with fail;generalize wd.alloc (.cells #[.int .i64 M1] 3)=w3' at *;have quI:=Lh ((HB3.o.block b9 (gl quS.o.row)).trans quS.o.row);refine⟨dv (Xc quI.o rfl),?_⟩;obtain⟨css,h0,h2,h3⟩:=(quS.o.own.below HB3.o).row;rw[io.o] at h0 h2;have hp64:p<=64:=by rw[HPP.o];exact HFI.o.2.1
      have hbase:b9+1<=w3'.heap.size:=by have:=(gl quI.o);omega
      refine Jz (i:=6) (by kernel_rfl) rfl (fun Q' hQ'=>?_);refine Zz (m:=1) dC rfl rfl rfl rfl h0 (Rd.row (B:=w3'.heap.size) Ss.o (by rw[<-ij.o];exact Ye _)) rfl (by simp[Value.oneCell']) (by simp only[maxLen];omega) (by omega) hbase ?_;intro v9' iO xz qzE _ _;obtain⟨A8,c8,mL,_,_⟩:=Zo xz;subst mL;have zaY:=Lh (Zq h0 qzE quI.o (by decide));have HNX:=Lh (InC.snoc (m:=M1) quS.o HB3.o (by rw[io.o];exact h0) (by rw[io.o];exact h2) h3 HBM.o (by rw[io.o];exact xz) qzE);rw[<-zrY.o] at HNX;generalize ha:Act.put _ _ _=z9;simp[Act.put] at ha;subst ha;refine hQ' _ _ ⟨Vg (by kernel_rfl),?_⟩;clear h0 h2 h3 xz qzE Ss ij HB3 quI hbase Ei;refine Jz (i:=7) (by kernel_rfl) rfl (fun Q' hQ'=>?_);go_wp2_with fail;refine⟨Vg (by kernel_rfl),?_⟩;have Zm:iO.cell? ⟨b9,1,none⟩=some (.slice A9 j c9):=Xc zaY.o rfl;have sk:iO.frozen? ⟨b9,1,none⟩=false:=by simp[World.frozen?,zaY.o]
      refine Jz (i:=8) (by kernel_rfl) rfl (fun Q' hQ'=>?_);go_wp2_with fail;refine⟨Vg (by kernel_rfl),?_⟩;refine Cs (by kernel_rfl) ?_ _;clear Zm sk zaY;go_wp2_with fail;go_roundw;exact⟨j+1,_,by omega,by go_num,HNX.o⟩;simp[intOf];omega
     ·obtain rfl:j=p:=by omega
      have HRX:=Lt (r.2.take j=r.2) (by rw[HPP.o];exact List.take_length);rw[HRX.o] at HIN io;obtain⟨A9,c9,hv9,qyA,znG⟩:=HIN.o.own.form;rw[io.o] at hv9 qyA;subst hv9;have HKL:=Lh (show ((rs.take k).map (Rz ns ts (Di ns) (Ky ts))).length=k by rw[Qk,Qq];have:=HQQ.o;omega);obtain⟨A3',c3',hv3,qyB,znI⟩:=HLC.o.own.form;rw[HKL.o] at hv3 qyB;subst hv3;have HPR:=Lh ((HKO.o.block P (gl HLC.o.row)).trans HLC.o.row);have hp2:wr.cell? ⟨P,2,none⟩=some (.slice A3' k c3'):=Xc HPR.o rfl;have Ag:wr.cell? ⟨b9,0,none⟩=some (.int .i64 M0):=Xc HIN.o.row rfl;have qmR:wr.cell? ⟨b9,1,none⟩=some (.slice A9 j c9):=Xc HIN.o.row rfl;have HBA:=Lh ((Xr wr.heap.size wr).alloc (Ya _) (.cells #[.int .i64 M0,.slice A9 j c9] 63));have Ss:=Lh (Xn wr (.cells #[.int .i64 M0,.slice A9 j c9] 63));have HKA2:=Lh (HKO.o.trans (HBA.o.mono HKO.o.size));have HW7:=Lh (HLC.o.keep.size);obtain⟨css,h0,h2,h3⟩:=(HLC.o.own.below HKA2.o).row;rw[HKL.o] at h0 h2;go_wp2_with (at_builtin;refine Zz (m:=1) sI rfl rfl rfl rfl h0 (Rd.row (B:=wr.heap.size+1) Ss.o (Ye _)) rfl (by simp[Value.oneCell']) ?h63 ?hby ?hbase ?_)
      case h63=>simp only[maxLen];omega
      case hby=>omega
      case hbase=>exact Yb HW7.o HKA2.o.size
      intro v3' w12 xy qzD _ _;obtain⟨A8,c8,mL,_,_⟩:=Zo xy;subst mL;have zhS:=Lh (Zq h0 qzD ((HKA2.o.block P (gl HLC.o.row)).trans HLC.o.row) (by decide));have HNX:=Lh (ce.snoc (r:=Rz ns ts (Di ns) (Ky ts) r) HLC.o O_.o.2 HKA2.o (by rw[HKL.o];exact h0) (by rw[HKL.o];exact h2) h3 (by
       rw[HRM.o]
       exact⟨[.int .i64 M0],[.slice A9 j c9],rfl,⟨rfl,HB0.o⟩,_,rfl,(HIN.o.own.below HBA.o).more (by have:=HW7.o;have:=HZ9.o;omega)⟩) (by rw[HKL.o];exact xy) qzD)
      have Zm:w12.cell? ⟨P,2,none⟩=some (.slice A3' k c3'):=Xc zhS.o rfl;have sk:w12.frozen? ⟨P,2,none⟩=false:=by simp[World.frozen?,zhS.o]
      clear h0 h2 h3 xy qzD;go_wp2_with fail;go_roundw;exact⟨k+1,_,by omega,by go_num,by rw[HTK.o,Qt,List.map_singleton];exact HNX.o⟩;simp[intOf];omega
    ·obtain rfl:k=q:=by omega
     have Cq:=Lt (rs.take k=rs) (by rw[HQQ.o];exact List.take_length);rw[Cq.o] at HLC;have HOK:=Lh (show ∀ r∈rs.map (Rz ns ts (Di ns) (Ky ts)),vU r from fun r hr=>by
      obtain⟨x,hx,rfl⟩:=Xa.1 hr
      intro s hs
      obtain⟨y,hy,rfl⟩:=Xa.1 (show s∈x.2.map _ from hs)
      have hf:=(qA.o.fit x hx).2.2 y hy
      simp only[Qk] at hf
      have h:=(qF (Gn ns) (Nc ts) hf).1
      have e2:=nK.o
      omega)
     have HKL:=Lh (show (rs.map (Rz ns ts (Di ns) (Ky ts))).length=k by rw[Qk];exact HQQ.o.symm);obtain⟨A3',c3',hv3,qyB,znI⟩:=HLC.o.own.form;rw[HKL.o] at hv3 qyB;subst hv3;have hp2:wr.cell? ⟨P,2,none⟩=some (.slice A3' k c3'):=Xc HLC.o.row rfl;go_wp2_with fail;refine (xD w7.heap.size (.slice A3' k c3') (rs.map (Rz ns ts (Di ns) (Ky ts))) wr HLC.o.own HOK.o (by rw[HKL.o];omega)).mono ?_;rintro e w13 ⟨rfl,zeY,qmH⟩;obtain⟨css,h0,_⟩:=HLC.o.own.row;have zsT:=Lh (Zq h0 qmH HLC.o.row (by decide));have HKS:=Lh ((HLC.o.keep.T (ts:=[9]) HP7.o (by decide)).trans (Jg.of_grown h0 qmH (by decide)));have Db:=Lt (Below S w wr) (sc.o.1.trans ⟨HLC.o.keep.os,HLC.o.keep.tape,HLC.o.keep.output,HLC.o.keep.size,fun j hj=>HLC.o.keep.block j (Yd hj sc.o.2.1) (by have:=hPS;have:=HZW.o;omega)⟩);have HBT:=Lh (Zt Db.o qmH h0 (by have:=sc.o.2.1;omega) (by have:=sc.o.2.1;have:=HLC.o.keep.size;omega));have zsZ:=Lh zeY;have Dl:=Lt (w13.heap[S+1]? = some (.cells #[.slice none 0 0,.slice none 0 0,.slice none 0 0] 25 (0,0))) (by
      have h1:=(HLC.o.keep.block (S+1) (gl HR7.o) (by have:=hPS;have:=HZW.o;omega)).trans HR7.o
      exact Zq h0 qmH h1 (by decide))
     clear zeY qmH h0 hp2;obtain⟨g0,g1,g2⟩:=Jb zsT.o;go_wp2_with (refine Zs none rfl ?_);refine Stop.go (Zn rfl 25 rfl rfl rfl (Ox (vs:=[.slice B1 n e1,.slice B2 m e2,.slice A3' k c3']) rfl (by kernel_rfl) Dl.o rfl (by intro u hu;simp at hu;rcases hu with rfl | rfl | rfl <;> rfl)) ?_);have ztC:=Lh (Zi _ _ _ _ _ _ Dl.o:(w13.setRow (S+1) [.slice B1 n e1,.slice B2 m e2,.slice A3' k c3'].toArray).heap[S+1]? = _);have HBN:=Lh (Zj HBT.o (Yh S) [.slice B1 n e1,.slice B2 m e2,.slice A3' k c3'].toArray);have HK1:=Lh (Rg (ts:=[9,63,3]) (cs':=[.slice B1 n e1,.slice B2 m e2,.slice A3' k c3'].toArray) Dl.o (by decide));generalize w13.setRow (S+1) [.slice B1 n e1,.slice B2 m e2,.slice A3' k c3'].toArray=w14 at *;generalize ha:Act.put _ _ _=z9;simp[Act.put] at ha;subst ha;go_wp2_with fail;have HFN:=Lh (show nM (Di ns) from fun x hx=>by
      have mK:=(Gn ns).mem_iff.1 hx
      exact HSN.o.fits x mK)
     have HFT:=Lh (show nM (Ky ts) from fun x hx=>by
      have mK:=(Nc ts).mem_iff.1 hx
      exact HST.o.fits x mK)
     have hU:=Vi (Vi HU7.o HKS.o (by simp)) HK1.o (by simp);have hV:=Vi (Vi HV7.o HKS.o (by simp)) HK1.o (by simp);have eU:n=(Di ns).length:=by rw[kB];exact qV.o
     have eV:m=(Ky ts).length:=by rw[Ba];exact nK.o
     have hw:=zsZ.o.keep (w':=w14) (HK1.o.less (by simp[aY,qvF,aA,mr,oSl]));refine lk rfl rfl rfl ztC.o ⟨_,_,_,rfl,fun w'' qxW=>⟨?_,?_,(xM hw (by have:=sc.o.2.1;have:=HS.o;omega) qxW).sl⟩,by rw[<-HS.o];exact HBN.o⟩
     ·exact cX (base:=w3.heap.size) (t:=9) HFN.o (by rw[<-eU];exact Pf hU (by have:=HZW.o;have:=HS.o;omega) qxW)
     ·exact cX (base:=MV) (t:=9) HFT.o (by rw[<-eV];exact Pf hV (by have:=HZW.o;have:=HS.o;have:=HMV.o.1;omega) qxW)
def pR:fJ Vw:=Ca bh Nk
theorem bf{w:World}{B:Nat}{cs:List Value}{x:Vw}(h:pR.rep w B cs x):cs=[.bool x.1,.string x.2]/\x.2.size<=maxLen:=by
 obtain⟨c1,c2,rfl,rfl,rfl,h1⟩:=h;exact⟨rfl,h1⟩
theorem qjC{ns ts ts':List Wd}{it:Vw}{s:Int}(h:Lm ns ts it=some (s,ts')):ts'.length<=ts.length+1:=by
 unfold Lm at h
 repeat' split at h
 all_goals first
  |(cases h;done)
  |(injection h with h;injection h with h1 h2;subst h2;first | (rw[Qe,Qf];omega) | omega)
theorem qrJ{ns ts ts':List Wd}{it:Vw}{s:Int}(h:Lm ns ts it=some (s,ts'))(h1:ns.length<=1048576)(h2:ts.length<=1048576):-9223372036854775808<=s/\s<=9223372036854775807:=by
 unfold Lm at h;have zfR:=List.idxOf_le_length (l:=ns) (a:=Wp it.2);have qvW:=List.idxOf_le_length (l:=ts) (a:=Wp it.2)
 repeat' split at h
 all_goals first
  |(cases h;done)
  |(injection h with h;injection h with h3 h4;omega)
section
variable {w w':World} {P Q gn gt:Nat} {vN vT vR:Value} {B0 B1:Nat} {ns ts:List Wd} {rs:List Jo} {css:List (List Value)}
theorem Dk.ints(h:Dk w P Q gn gt vN vT vR B0 B1 ns ts rs css){base n:Nat}{v:Value}{xs:List Value}(ho:w.ownsRow base 3 1 v n xs)(hg:w.grownBy w' v.ownBlock)(hB:B1<=base):Dk w' P Q gn gt vN vT vR B0 B1 ns ts rs css :=
 ⟨Zq ho hg h.box (by decide),h.mn.row ho hg,h.mt.row ho hg,h.names.keep (.of_keepT (Jg.of_grown ho hg (by decide))),Vr h.terms ho (by decide) hg,Vr h.rules ho (by decide) hg,h.rrows.keep (.of_grown ho hg hB),h.lo,Yb h.b0 hg.size,Yb h.b1 hg.size⟩
theorem Dk.rule(h:Dk w P Q gn gt vN vT vR B0 B1 ns ts rs css){g k:Nat}{cs:Array Value}(hg:w.heap[g]? = some (.cells cs 63 (0,0)))(hv:vR.ownBlock≠some g)(v:Value):Dk (w.setCell ⟨g,k,none⟩ v) P Q gn gt vN vT vR B0 B1 ns ts rs css:=by
 have hk:∀ us:List TypeId,63∉us->Jg us w (w.setCell ⟨g,k,none⟩ v):=fun us hu=>Vm hg hu v;exact⟨(hk [224] (by decide)).2 Q _ _ (by simp) h.box,h.mn.cell hg v,h.mt.cell hg v,h.names.keep (.of_keepT (hk _ (by decide))),Vi h.terms (hk [9] (by decide)) (by simp),ownsRow_setCell_other h.rules hv v,h.rrows.keep (.of_keepT (hk _ (by decide))),h.lo,by rw[Za];exact h.b0,by rw[Za];exact h.b1⟩
theorem Dk.snoc(h:Dk w P Q gn gt vN vT vR B0 B1 ns ts rs css){lD:Value}{cs:List Value}{x:Jo}(hx:Gv.rep w w.heap.size cs x)(ho:w'.ownsRow B0 63 2 lD (rs.length+1) (css.flatten++cs))(hg:w.grownBy w' vR.ownBlock) :
  Dk (w'.setCell ⟨Q,4,none⟩ lD) P Q gn gt vN vT lD B0 (w'.setCell ⟨Q,4,none⟩ lD).heap.size ns ts (rs++[x]) (css++[cs]):=by
 have We:=Zq h.rules hg h.box (by decide);have hb:=Kj (k:=4) We lD;have hk:∀ us:List TypeId,224∉us->Jg us w' (w'.setCell ⟨Q,4,none⟩ lD):=fun us hu=>Vm We hu lD;have iH:∀ us:List TypeId,63∉us->Jg us w w':=fun us hu=>Jg.of_grown h.rules hg hu;have hkU:Eh Gv.ts (w'.setCell ⟨Q,4,none⟩ lD).heap.size w (w'.setCell ⟨Q,4,none⟩ lD):=(Eh.of_keepT (iH _ (by decide))).trans (.of_keepT (hk _ (by decide)));have Ek:w.heap.size<=(w'.setCell ⟨Q,4,none⟩ lD).heap.size:=by rw[Za];exact hg.size
 refine⟨hb,(h.mn.row h.rules hg).cell We lD,(h.mt.row h.rules hg).cell We lD,(h.names.keep (.of_keepT (iH _ (by decide)))).keep (.of_keepT (hk _ (by decide))),Vi (Vr h.terms h.rules (by decide) hg) (hk [9] (by decide)) (by simp),?_,?_,h.lo,Yb h.b0 Ek,Ya _⟩
 ·have:=Vi ho (hk [63] (by decide)) (by simp);rw[Qs,Qe,Qf];simpa using this
 ·exact Vj.snoc ((h.rrows.more (Yb h.b1 Ek)).keep hkU) (Gv.keep (Gv.more hx Ek) hkU)
end
def zaC(w:World)(P Q gn gt:Nat)(vN:Value)(B0:Nat)(ns ts:List Wd)(rs:List Jo)(left:Int)(alt:List Vw)(e:Ending)(w':World):Prop :=
 (Ez ns ts [] alt=none/\e=.returned (.bool false)/\Below P w w') \/
 ∃ r ts' aH lD css',Ez ns ts [] alt=some (r,ts')/\ts'.length<=ts.length+alt.length/\e=.returned (.bool true)/\Dk w' P Q gn gt vN aH lD B0 w'.heap.size ns ts' (rs++[(left,r)]) css'/\Below P w w'
theorem qbZ(it:Vw)(w:World)(P Q gn gt:Nat)(vN vT vR:Value)(B0 B1:Nat)(ns ts:List Wd)(rs:List Jo)(css:List (List Value))(h:Dk w P Q gn gt vN vT vR B0 B1 ns ts rs css)(hts:ts.length<=1048576) :
  Calls Tryz.prog 240 #[.pointer (some ⟨Q,0,none⟩),.agg #[.bool it.1,.string it.2]] w (vS w P Q gn gt vN vR B0 B1 ns ts rs css it):=by
 obtain⟨bo,s⟩:=it;have:=tl bo (Wp s) w P Q gn gt vN vT vR B0 B1 ns ts rs css h hts;rw[Dd] at this;exact this
theorem ob{w:World}{base:Nat}{v:Value}{r:List Int}(ho:w.ownsRow base 3 1 v r.length (r.map (Value.int .i64)))(hb:∀ s∈r,-9223372036854775808<=s/\s<=9223372036854775807):Tn qrD 3 w w.heap.size v r:=by
 have hf:(r.map fun s=>[Value.int .i64 s]).flatten=r.map (Value.int .i64):=by
  clear ho hb
  induction r with
  |nil=>rfl
  |cons s r ih=>rw[List.map_cons,List.flatten_cons,ih];rfl
 refine Tn.of_row (O:=qrD) (css:=r.map fun s=>[Value.int .i64 s]) (by rw[hf];exact ho) ⟨by rw[Qk],fun i cs x hc hx=>?_⟩;rw[Qv,hx] at hc;injection hc with hc;subst hc;exact⟨rfl,hb x (Qp hx)⟩
theorem qjO(left:Nat)(vA:Value)(alt:List Vw)(w:World)(P Q gn gt:Nat)(vN vT vR:Value)(B0:Nat)(ns ts:List Wd)(rs:List Jo)(css:List (List Value))(h:Dk w P Q gn gt vN vT vR B0 w.heap.size ns ts rs css)(ha:Je pR w P vA alt)(hl:left<=1048576)(hns:ns.length<=1048576)(hts:ts.length<=524288)(Or:alt.length<=64)(hrs:rs.length<=1048576) :
  Calls Tryz.prog 175 #[.pointer (some ⟨Q,0,none⟩),.int .i64 left,vA] w (zaC w P Q gn gt vN B0 ns ts rs left alt):=by
 obtain⟨A1,c1,rfl,uD,wT⟩:=ha.form;unfold maxLen at wT;have hQw:=(gl h.box);have hPQ:=h.lo.2.2.1;obtain⟨KR,hKR⟩:=Xe w.heap.size;have Ag:Below w.heap.size w (w.alloc (.cells #[.int .i64 left,.slice none 0 0] 63)):=(Xr _ _).alloc (Ya _) _;have HM:=Lh (h.below Ag);have HA:=Lh (ha.below (Ag.mono (show P<=w.heap.size by omega)));have HB:=Lh (Ag.mono (show P<=w.heap.size by omega));have HR0:=Lh (Xn w (.cells #[.int .i64 left,.slice none 0 0] 63));have HZ:=Lh (Xs w (.cells #[.int .i64 left,.slice none 0 0] 63));rw[<-hKR] at HR0 HZ HM;have HLT:=Lh (show P<=Q/\Q<KR by omega);have jm:=Lh (show vR.ownBlock≠some KR from fun e=>by
  rcases h.rules.2 with ⟨h0,_⟩ | ⟨g',cap,cur,h0,_,hh,_⟩
  ·rw[h0] at e;simp[Value.ownBlock] at e
  ·rw[h0] at e
   have e:g'=KR:=by simpa[Value.ownBlock] using e
   have:=(gl hh)
   omega)
 obtain⟨n,hn⟩:=Xe alt.length;rw[<-hn] at HA uD Or |-;have HN:=Lh hn;clear h ha Ag hQw hPQ hn;go_enter Tryz.func175,Tryz.ntmps175;go_wp2_with fail;rw[<-hKR];clear hKR;generalize w.alloc (.cells #[.int .i64 left,.slice none 0 0] 63)=w1 at *;have HOW0:=Lt (w1.ownsRow (KR+1) 3 1 (.slice none 0 0) ([]:List Int).length (([]:List Int).map (Value.int .i64))) (Yz _ _ _ _);have HBD0:=Lt (∀ s∈([]:List Int),-9223372036854775808<=s/\s<=9223372036854775807) (fun s hs=>by cases hs);have HEQ0:=Lt (Ez ns ts [] alt=Ez ns ts [] (alt.drop 0)) (rfl);go_loopw [16] (fun ju wr=>∃(j:Nat)(r:List Int)(ts':List Wd)(aH vr:Value),j<=n/\ju=.int .i64 j/\r.length=j/\ts'.length<=ts.length+j/\Hid (Ez ns ts [] alt=Ez ns ts' r (alt.drop j))/\Hid (Dk wr P Q gn gt vN aH vR B0 KR ns ts' rs css)/\Hid (wr.heap[KR]? = some (.cells #[.int .i64 left,vr] 63 (0,0)))/\Hid (wr.ownsRow (KR+1) 3 1 vr r.length (r.map (Value.int .i64)))/\Hid (∀ s∈r,-9223372036854775808<=s/\s<=9223372036854775807)/\Hid (Below P w wr)) (fun ju _=>n - (intOf ju).toNat);exact⟨0,[],ts,vT,_,by omega,rfl,rfl,by omega,HEQ0.o,HM.o,HR0.o,HOW0.o,HBD0.o,HB.o⟩;have HAW:=Lh (show ∀ W,Below P w W->Je pR W P (.slice A1 n c1) alt from fun W hb=>by
  have h1:Je pR w P (.slice A1 n c1) alt:=HA.o.keep fun p hp=>(HB.o.cell hp).symm
  exact h1.below hb)
 clear HOW0 HBD0 HEQ0 HM HR0 HZ HA HB;obtain⟨j,r,ts',aH,vr,hj,rfl,hrj,htj,HEQ,HM,HRW,HOW,HBD,HB⟩:=hrel;by_cases Ji:j<n
 ·have hja:j<alt.length:=by rw[<-HN.o];exact Ji
  obtain⟨b,off,cs,hA1,_,hbP,Zx,Zm⟩:=(HAW.o wr HB.o).get hja (by decide);subst hA1;obtain⟨rfl,_⟩:=bf Zx;have c0:=Zm 0 _ rfl;have c1':=Zm 1 _ rfl;simp only[show pR.size=2 from rfl,Yp,<-Yx] at c0 c1';have jo:=Lh (show Ez ns ts' r (alt.drop j)=match Lm ns ts' alt[j] with | none=>none | some (s,ts'')=>Ez ns ts'' (r++[s]) (alt.drop (j+1)) by rw[Ql hja];rfl)
  clear Zm Zx;obtain⟨it,iI⟩:=Xe (alt[j]);rw[<-iI] at c0 c1' jo;clear iI;have zqI:=(gl HRW.o);have Ja:Below wr.heap.size wr (wr.alloc (.cells #[.bool it.1,.string it.2] 277)):=(Xr _ _).alloc (Ya _) _;have HM2:=Lh (HM.o.below Ja);have Lb:=Lh ((Ja.block KR zqI).trans HRW.o);have im:=Lh (Zy HOW.o Ja);have HB2:=Lh (HB.o.trans (Ja.mono (by have:=HLT.o;omega)));have HSY:=Lh (qbZ it (wr.alloc (.cells #[.bool it.1,.string it.2] 277)) P Q gn gt vN aH vR B0 KR ns ts' rs css HM2.o (by omega));clear Ja;go_wp2_with fail;clear c0 c1';refine HSY.o.mono ?_;generalize wr.alloc (.cells #[.bool it.1,.string it.2] 277)=w2 at *;rintro e w3 hst;rcases hst with ⟨oq,rfl,hb3⟩ | ⟨s,ts2,vT2,Ft,rfl,hm3,hb3,eh⟩
  ·have Ju:=Lh (show Ez ns ts [] alt=none by rw[HEQ.o,jo.o,oq]);have HB3:=Lh (HB2.o.trans hb3);clear hb3 oq;go_wp2_with fail;go_ret;exact .inl ⟨Ju.o,rfl,HB3.o⟩
  ·have HEQ':=Lh (show Ez ns ts [] alt=Ez ns ts2 (r++[s]) (alt.drop (j+1)) by rw[HEQ.o,jo.o,Ft]);have hts2:ts2.length<=ts.length+(j+1):=by have:=qjC Ft;omega
   have kN:=Lh (qrJ Ft hns (by omega));have HM3:=Lh hm3;have HB3:=Lh (HB2.o.trans hb3);have I_:=Lh (eh.2 KR _ _ (by simp) Lb.o);have quK:=Lh (Vi im.o eh (by simp));clear hm3 hb3 eh Ft HSY HM2 Lb im HB2;obtain⟨r0,r1⟩:=Kn I_.o;obtain⟨Ar,cr,hvr,Cm,hr2⟩:=Zo quK.o;subst hvr;unfold maxLen at hr2;rw[hrj] at r1 Cm;have hb4:Below w3.heap.size w3 (w3.alloc (.cells #[.int .i64 s] 3)):=(Xr _ _).alloc (Ya _) _;have HN4:=Lh (Xn w3 (.cells #[.int .i64 s] 3));have HS4:=Lh (Xs w3 (.cells #[.int .i64 s] 3));have zqJ:=(gl I_.o);have Lc:=Lh (HM3.o.below hb4);have quH:=Lh ((hb4.block KR zqJ).trans I_.o);have rv:=Lh (Zy quK.o hb4);have HB4:=Lh (HB3.o.trans (hb4.mono (by have:=HLT.o;omega)));rw[hrj] at rv;clear hb4;go_wp2_with (at_builtin;refine Zz (m:=1) dC rfl rfl rfl rfl rv.o (Rd.row (B:=w3.heap.size+1) HN4.o (Ye _)) rfl (by simp[Value.oneCell']) ?h63 ?hby ?hbase ?_)
   case h63=>simp only[maxLen];omega
   case hby=>omega
   case hbase=>rw[HS4.o];omega
   intro vr' w7 Na Ta _ _;obtain⟨A8,c8,mL,_,_⟩:=Zo Na;subst mL;have kO:=Lh (Zq rv.o Ta quH.o (by decide));have HM7:=Lh (Lc.o.ints rv.o Ta (Yh KR));have HB7:=Lh (Zt HB4.o Ta rv.o (by have:=HLT.o;omega) (by rw[HS4.o];have:=HLT.o;omega));have Om:=Lh Na;have hq1:=(Kn kO.o).2;rw[hrj] at hq1;have hf1:w7.frozen? ⟨KR,1,none⟩=false:=by simp[World.frozen?,kO.o]
   have HRW8:=Lh (Kj (k:=1) kO.o (.slice A8 (j+1) c8));have HM8:=Lh (HM7.o.rule (k:=1) kO.o jm.o (.slice A8 (j+1) c8));have HB8:=Lh (HB7.o.setCell (p:=⟨KR,1,none⟩) (by show P<=KR;have:=HLT.o;omega) (.slice A8 (j+1) c8));have HOW8:=Lt ((w7.setCell ⟨KR,1,none⟩ (.slice A8 (j+1) c8)).ownsRow (KR+1) 3 1 (.slice A8 (j+1) c8) (r++[s]).length ((r++[s]).map (Value.int .i64))) (by
    rw[Qe,Qf,hrj,Qt]
    exact Zk Om.o (Ye KR) _)
   have HBD8:=Lh (show ∀ x∈r++[s],-9223372036854775808<=x/\x<=9223372036854775807 from fun x hx=>by
    rcases Qh.1 hx with hx | hx
    ·exact HBD.o x hx
    ·rw[Qi.1 hx];exact kN.o)
   have HRL:=Lh (show (r++[s]).length=j+1 by rw[Qe,Qf,hrj]);clear Na Ta kO HM7 HB7 Om;go_wp2_with fail;go_roundw;exact⟨j+1,r++[s],ts2,vT2,_,by omega,by go_num,HRL.o,hts2,HEQ'.o,HM8.o,HRW8.o,HOW8.o,HBD8.o,HB8.o⟩;simp[intOf];omega
 ·obtain rfl:j=n:=by omega
  have Ju:=Lh (show Ez ns ts [] alt=some (r,ts') by
   rw[HEQ.o,Xl (by rw[<-HN.o];exact Ya _)];rfl)
  obtain⟨r0,r1⟩:=Kn HRW.o;obtain⟨q0,q1,q2,q3,q4⟩:=Uu HM.o.box;obtain⟨AR,cR,hvR,hR1,hR2⟩:=Zo HM.o.rules;subst hvR;obtain⟨Ar,cr,hvr,Cm,hr2⟩:=Zo HOW.o;subst hvr;obtain⟨q,hq⟩:=Xe rs.length;have HQE:=Lh hq;have fI:=Lh (show ∀ W:World,W.heap[Q]? = some (.cells #[.map (some gn),.map (some gt),vN,aH,.slice AR rs.length cR] 224 (0,0))->W.heap[KR]? = some (.cells #[.int .i64 left,.slice Ar r.length cr] 63 (0,0))->W.cell? ⟨Q,4,none⟩=some (.slice AR q cR)/\∀(i:Nat)(u:Value),[Value.int .i64 left,.slice Ar j cr][i]? = some u->W.cell? ⟨KR,0+i,none⟩=some u from fun W h1 h2=>⟨by rw[HQE.o];exact (Uu h1).2.2.2.2,fun i u hu=>by
   rw[hrj] at h2
   match i with
   |0=>injection hu with hu;rw[<-hu];exact (Kn h2).1
   |1=>injection hu with hu;rw[<-hu];exact (Kn h2).2
   |i+2=>simp at hu⟩)
  clear r0 r1 q0 q1 q2 q3 q4 hq;go_wp2_with fail;have Ei:=Lh (fI.o wr.drew HM.o.box HRW.o);refine Gi (fun w'=>w'.cell? ⟨Q,4,none⟩=some (.slice AR q cR)/\∀(i:Nat)(u:Value),[Value.int .i64 left,.slice Ar j cr][i]? = some u->w'.cell? ⟨KR,0+i,none⟩=some u) [9] 13 (by kernel_rfl) rfl ?_;have HM2:=Lh HM.o.drew;have Lb:=Lt (wr.drew.heap[KR]? = some (.cells #[.int .i64 left,.slice Ar r.length cr] 63 (0,0))) (HRW.o);have im:=Lh (Zy HOW.o ((Xr wr.heap.size wr).drew));have HB2:=Lh HB.o.drew;clear HM HRW HOW HB;generalize wr.drew=w2 at *;refine Lg 0 (.pointer (some ⟨Q,0,none⟩)) rfl (by kernel_rfl) rfl (fun wq=>by go_simp) Ei.o ?_;generalize ha:Act.put _ _ _=z9;simp[Act.put] at ha;subst ha;refine Lg 1 (.pointer (some ⟨Q,0,none⟩)) rfl (by kernel_rfl) rfl (fun wq=>by go_simp) Ei.o ?_;generalize ha:Act.put _ _ _=z9;simp[Act.put] at ha;subst ha;refine Lg 2 (.pointer (some ⟨Q,0,none⟩)) rfl (by kernel_rfl) rfl (fun wq=>by go_simp) Ei.o ?_;generalize ha:Act.put _ _ _=z9;simp[Act.put] at ha;subst ha;refine Lg 3 (.pointer (some ⟨Q,2,none⟩)) rfl (by kernel_rfl) rfl (fun wq=>by go_simp) Ei.o ?_;generalize ha:Act.put _ _ _=z9;simp[Act.put] at ha;subst ha;refine Lg 4 (.pointer (some ⟨Q,4,none⟩)) rfl (by kernel_rfl) rfl (fun wq=>by go_simp) Ei.o ?_;generalize ha:Act.put _ _ _=z9;simp[Act.put] at ha;subst ha;refine jp 5 (.slice AR q cR) rfl (by kernel_rfl) rfl (fun wq dW=>Wi rfl rfl (Et (e:=63) (by kernel_rfl) dW.1)) Ei.o ?_;generalize ha:Act.put _ _ _=z9;simp[Act.put] at ha;subst ha;refine jp 6 (.agg #[.int .i64 left,.slice Ar j cr]) rfl (by kernel_rfl) rfl (fun wq dW=>Wi rfl rfl (qkV (cs:=[.int .i64 left,.slice Ar j cr]) Tryz.underlying63 rfl (by kernel_rfl) dW.2)) Ei.o ?_;generalize ha:Act.put _ _ _=z9;simp[Act.put] at ha;subst ha;have HB3:=Lh ((Xr w2.heap.size w2).alloc (Ya _) (.cells #[.int .i64 left,.slice Ar j cr] 63));have Ss:=Lh (Xn w2 (.cells #[.int .i64 left,.slice Ar j cr] 63));have ij:=Lt (w2.heap.size+1=(w2.alloc (.cells #[.int .i64 left,.slice Ar j cr] 63)).heap.size) ((Xs _ _).symm);refine Jz (i:=7) (by kernel_rfl) rfl (fun Q' hQ'=>?_);go_wp2_with fail;generalize w2.alloc (.cells #[.int .i64 left,.slice Ar j cr] 63)=w3 at *;have HM3:=Lh (HM2.o.below HB3.o);have I_:=Lh ((HB3.o.block KR (gl Lb.o)).trans Lb.o);have quK:=Lh (Zy im.o HB3.o);have dZ:=Lh (HB2.o.trans (HB3.o.mono (by have:=HM2.o.b0;have:=HM2.o.lo;omega)));refine⟨dv (fI.o w3 HM3.o.box I_.o),?_⟩;have Tf:=HM3.o.rules;rw[<-HQE.o] at Tf;refine Jz (i:=8) (by kernel_rfl) rfl (fun Q' hQ'=>?_);refine Zz (m:=1) sI rfl rfl rfl rfl Tf (Rd.row (B:=w3.heap.size) Ss.o (by rw[<-ij.o];exact Ye _)) rfl (by simp[Value.oneCell']) (by rw[HQE.o];simp only[maxLen];omega) (by rw[HQE.o];omega) HM3.o.b0 ?_;intro lD iO hown hg _ _;obtain⟨A8,c8,mL,_,_⟩:=Zo hown;subst mL;have Cj:=Lh (Zq Tf hg HM3.o.box (by decide));have zsN:=Lt (iO.heap[KR]? = some (.cells #[.int .i64 left,.slice Ar r.length cr] 63 (0,0))) ((hg.block KR (gl I_.o) (fun e=>jm.o (show (Value.slice AR rs.length cR).ownBlock=some KR from by cases AR with | none=>cases e | some a=>exact e.symm))).trans I_.o);have HXR:=Lh (show Gv.rep w3 w3.heap.size [.int .i64 left,.slice Ar j cr] ((left:Int),r) from ⟨[.int .i64 left],[.slice Ar j cr],rfl,⟨rfl,by omega,by omega⟩,_,rfl,by
   have h1:=ob quK.o HBD.o
   rw[hrj] at h1
   exact h1⟩)
  have Lc:=Lh (Dk.snoc HM3.o HXR.o (by rw[<-HQE.o];exact hown) (by rw[<-HQE.o];exact hg));have HB4:=Lh (Zt dZ.o hg Tf HM3.o.lo.2.2.2.1 (by have:=HM3.o.b0;have:=HM3.o.lo;omega));clear hown hg Tf;generalize ha:Act.put _ _ _=z9;simp[Act.put] at ha;subst ha;refine hQ' _ _ ⟨dv (fI.o iO (by rw[<-HQE.o];rw[<-HQE.o] at Cj;exact Cj.o) zsN.o),?_⟩;have q4:=(Uu Cj.o).2.2.2.2;have f4:iO.frozen? ⟨Q,4,none⟩=false:=by simp[World.frozen?,Cj.o]
  refine Jz (i:=9) (by kernel_rfl) rfl (fun Q' hQ'=>?_);go_wp2_with fail;refine⟨Vg (by kernel_rfl),?_⟩;refine Jz (i:=10) (by kernel_rfl) rfl (fun Q' hQ'=>?_);go_wp2_with fail;refine⟨Vg (by kernel_rfl),?_⟩;refine Jz (i:=11) (by kernel_rfl) rfl (fun Q' hQ'=>?_);go_wp2_with fail;refine⟨Vg (by kernel_rfl),?_⟩;refine Jz (i:=12) (by kernel_rfl) rfl (fun Q' hQ'=>?_);go_wp2_with fail;refine⟨Vg (by kernel_rfl),?_⟩;refine Cs (by kernel_rfl) ?_ _;go_wp2_with fail;go_ret;exact .inr ⟨r,ts',aH,_,_,Ju.o,by rw[<-HN.o];exact htj,rfl,Lc.o,HB4.o.setCell (p:=⟨Q,4,none⟩) HM3.o.lo.2.2.1 _⟩
theorem Ur{fn:Func}{p u:Tmp}{r:Value}{Q:Ending->World->Prop}(h:fn.results=#[.cell p 25,.tmp u]){a:Act}{w:World}{g:Nat}{c0 c1 c2:Value}{fr:Nat×Nat}{t:TypeId}(hd:a.defers=[])
  (hp:a.tmps.getD p undef=.pointer (some ⟨g,0,none⟩)) (hu:a.tmps.getD u undef=r) (hg:w.heap[g]? = some (.cells #[c0,c1,c2] t fr)) (hq:Q (.returned (.tuple #[.agg #[c0,c1,c2],r])) w):bodyPost Tryz.prog fn Q .ret a w:=by
 refine Zg (v:=.tuple #[.agg #[c0,c1,c2],r]) ?_ hd hq;rw[results_cell_tmp h,hp,hu];simp[asAddr,Result.andThen,run_loadVar_row w g t 25 #[c0,c1,c2] fr _ hg Tryz.underlying25 rfl (by kernel_rfl)]
theorem Vk{w:World}{g:Nat}{a b c:Value}{cur:Array Value}{t:TypeId}(hg:w.heap[g]? = some (.cells cur t (0,0)))(hc:cur.size=3)(h1:a.oneCell'=true)(h2:b.oneCell'=true)(h3:c.oneCell'=true) :
  (Instr.storeAt 25 (.pointer (some ⟨g,0,none⟩)) (.agg #[a,b,c])).run Tryz.prog w=.ok () (w.setRow g [a,b,c].toArray):=by
 rw[Az (vs:=[a,b,c]) rfl (by kernel_rfl) hg (by simp;omega) (by intro u hu;simp only[List.mem_cons,List.not_mem_nil,or_false] at hu;rcases hu with rfl | rfl | rfl <;> assumption)];congr 2;simp[List.drop_eq_nil_of_le (show cur.toList.length<=3 by simp;omega)]
structure He(w:World)(P Q gn gt:Nat)(vN:Value)(nm ns:List Wd):Prop where
 box:w.heap[Q]? = some (.cells #[.map (some gn),.map (some gt),vN,.slice none 0 0,.slice none 0 0] 224 (0,0))
 mn:Nn w gn nm
 mt:Nn w gt []
 names:w.ownsRow (Q+1) 9 1 vN ns.length (ns.map wv)
 lo:P<=gn/\P<=gt/\P<=Q/\gn≠gt
section
variable {w w':World} {P Q gn gt:Nat} {vN sh:Value} {nm ns:List Wd}
theorem He.lt(h:He w P Q gn gt vN nm ns):Q<w.heap.size:=(gl h.box)
theorem He.below(h:He w P Q gn gt vN nm ns)(hb:Below w.heap.size w w'):He w' P Q gn gt vN nm ns :=
 ⟨(hb.block Q h.lt).trans h.box,h.mn.below hb,h.mt.below hb,Zy h.names hb,h.lo⟩
theorem He.drew(h:He w P Q gn gt vN nm ns):He w.drew P Q gn gt vN nm ns:=h.below ((Xr _ _).drew)
theorem He.put{nm':List Wd}(h:He w P Q gn gt vN nm ns)(hm:Nn w' gn nm')(hg:w.grownBy w' (some gn)):He w' P Q gn gt vN nm' ns:=by
 have hk:∀ us,Jg us w w':=fun us=>Jg.of_map h.mn hg;exact⟨(hk [224]).2 Q _ _ (by simp) h.box,hm,h.mt.other hg (Ne.symm h.lo.2.2.2),Vi h.names (hk [9]) (by simp),h.lo⟩
theorem He.snoc{T:Wd}(h:He w P Q gn gt vN nm ns)(ho:w'.ownsRow (Q+1) 9 1 sh (ns.length+1) (ns.map wv++[wv T]))(hg:w.grownBy w' vN.ownBlock):He (w'.setCell ⟨Q,2,none⟩ sh) P Q gn gt sh nm (ns++[T]):=by
 have We:=Zq h.names hg h.box (by decide);refine⟨Kj (k:=2) We sh,(h.mn.row h.names hg).cell We sh,(h.mt.row h.names hg).cell We sh,?_,h.lo⟩;have:=Zk ho (a:=⟨Q,2,none⟩) (Ye Q) sh;rw[Qt,Qe,Qf];exact this
theorem He.done(h:He w P Q gn gt vN ns ns)(hs:∀ t∈ns,(Jp t).size<=maxLen):Dk w P Q gn gt vN (.slice none 0 0) (.slice none 0 0) w.heap.size w.heap.size ns [] [] []:=by
 have hf:(ns.map fun t=>[wv t]).flatten=ns.map wv:=by
  clear hs h
  induction ns with
  |nil=>rfl
  |cons s r ih=>rw[List.map_cons,List.flatten_cons,ih];rfl
 refine⟨h.box,h.mn,h.mt,?_,Yz _ _ _ _,Yz _ _ _ _,Vj.nil _ _ _,⟨h.lo.1,h.lo.2.1,h.lo.2.2.1,Yb h.lo.2.2.1 (Yg h.lt),h.lo.2.2.2⟩,Ya _,Ya _⟩;refine Tn.of_row (O:=dQ) (css:=ns.map fun t=>[wv t]) (by rw[hf,Qk];exact h.names) ⟨by rw[Qk,Qk],fun i cs x hc hx=>?_⟩;rw[Qv] at hc hx;cases hi:ns[i]? with
 |none=>rw[hi] at hc;cases hc
 |some t =>
  rw[hi] at hc hx;injection hc with hc;injection hx with hx;subst hc hx;exact⟨rfl,hs t (Qp hi)⟩
end
theorem Dk.slR{w:World}{P Q gn gt:Nat}{vN vT vR:Value}{B0 B1:Nat}{ns ts:List Wd}{rs:List Jo}{css:List (List Value)}(h:Dk w P Q gn gt vN vT vR B0 B1 ns ts rs css):Je Vv w w.heap.size vR rs:=(Tn.of_row (O:=Gv) h.rules (h.rrows.more h.b1)).sl
def Jt(l:List Ke):List Wd:=l.map fun x=>Wp x.1
theorem mC(l:List Ke){k:Nat}(h:k<l.length):Jt (l.take (k+1))=Jt (l.take k)++[Wp l[k].1]:=by
 unfold Jt;rw[Qc h,Qt,List.map_singleton]
theorem zQ(l:List Ke){k:Nat}(h:k<l.length)(hm:Wp l[k].1∈Jt (l.take k)):¬ (Jt l).Nodup:=by
 intro hn;have h1:(Jt (l.take (k+1))).Nodup:=by
  have e:Jt l=Jt (l.take (k+1))++Jt (l.drop (k+1)):=by
   unfold Jt;rw[<-Qt,Xm]
  rw[e] at hn;exact (List.nodup_append.1 hn).1
 rw[mC l h,List.nodup_append] at h1;exact h1.2.2 _ hm _ (Qi.2 rfl) rfl
theorem rl(l:List Ke)(k:Nat):Da (l.take k)<=Da l:=by
 unfold Da
 conv=>rhs;rw[<-Xm k l,Qt,List.sum_append]
 omega
theorem Sy{l:List Ke}(h:Rh l=true):Jn l=(([],[],[]),19):=by unfold Jn;rw[if_pos h]
theorem eJ{l:List Ke}(h:Rh l=false)(hn:¬ (Jt l).Nodup):Jn l=(([],[],[]),15):=by
 unfold Jn;rw[if_neg (by rw[h];decide),if_pos (show ¬ (l.map fun x=>Wp x.1).Nodup from hn)]
theorem jD{l:List Ke}(h:Rh l=false)(hn:(Jt l).Nodup)(hl:Kz (Jt l) 0 [] [] l=none):Jn l=(([],[],[]),16):=by
 unfold Jn;rw[if_neg (by rw[h];decide),if_neg (show ¬ ¬ (l.map fun x=>Wp x.1).Nodup from fun e=>e hn),show Kz (l.map fun x=>Wp x.1) 0 [] [] l=none from hl]
theorem jC{l:List Ke}(h:Rh l=false)(hn:(Jt l).Nodup){rs:List Jo}{ts:List Wd}(hl:Kz (Jt l) 0 [] [] l=some (rs,ts)) :
  Jn l=if 256<l.length+ts.length then (([],[],[]),19) else if ¬ rs.Nodup then (([],[],[]),15) else ((l.map fun x=>x.1,ts.map Jp,rs),0):=by
 unfold Jn;rw[if_neg (by rw[h];decide),if_neg (show ¬ ¬ (l.map fun x=>Wp x.1).Nodup from fun e=>e hn),show Kz (l.map fun x=>Wp x.1) 0 [] [] l=some (rs,ts) from hl]
theorem tR{ns ts:List Wd}{rs:List Jo}{i:Nat}{l:List Ke}(h:i<l.length):Kz ns i ts rs (l.drop i)=match Cf ns (i:Int) ts rs l[i].2 with | none=>none | some (Bk,ts')=>Kz ns (i+1) ts' Bk (l.drop (i+1)):=by
 rw[Ql h];rfl
theorem bv{ns ts:List Wd}{rs:List Jo}{i:Int}{k:Nat}{al:List (List Vw)}(h:k<al.length):Cf ns i ts rs (al.drop k)=match Ez ns ts [] al[k] with | none=>none | some (r,ts')=>Cf ns i ts' (rs++[(i,r)]) (al.drop (k+1)):=by
 rw[Ql h];rfl
def jl(ts:List Wd):Prop:=∀ t∈ts,(Jp t).size<=maxLen
def LnS(l:List Ke):Prop:=∀ x∈l,x.1.size<=maxLen/\∀ a∈x.2,∀ it∈a,it.2.size<=maxLen
theorem qxR{ns ts ts':List Wd}{it:Vw}{s:Int}(h:Lm ns ts it=some (s,ts'))(hi:it.2.size<=maxLen)(ht:jl ts):jl ts':=by
 unfold Lm at h
 repeat' split at h
 all_goals first
  |(cases h;done)
  |skip
 all_goals
  injection h with h;injection h with h1 h2;subst h2
  first
   |exact ht
   |(intro t hm
     rcases Qh.1 hm with hm | hm
     ·exact ht t hm
     ·rw[Qi.1 hm,Dd];exact hi)
theorem qoK{ns:List Wd}:∀(l:List Vw)(ts:List Wd)(r:List Int)(ts':List Wd)(r':List Int),Ez ns ts r l=some (r',ts')->(∀ it∈l,it.2.size<=maxLen)->jl ts->jl ts'
 |[],ts,r,ts',r',h,_,ht=>by
  rw[Ez] at h;injection h with h;injection h with h1 h2;subst h2;exact ht
 |it::l,ts,r,ts',r',h,hi,ht=>by
  rw[Ez] at h;cases e:Lm ns ts it with
  |none=>rw[e] at h;cases h
  |some p =>
   obtain⟨s,ts1⟩:=p;rw[e] at h;exact qoK l ts1 (r++[s]) ts' r' h (fun x hx=>hi x (by simp[hx])) (qxR e (hi it (by simp)) ht)
def Eg(l:List Ke)(w:World)(e:Ending)(w':World):Prop:=∃ v1 v2 v3,e=.returned (.tuple #[.agg #[v1,v2,v3],.int .i64 (Jn l).2])/\Je Nk w' w'.heap.size v1 (Jn l).1.1/\Je Nk w' w'.heap.size v2 (Jn l).1.2.1/\Je Vv w' w'.heap.size v3 (Jn l).1.2.2/\Below w.heap.size w w'
theorem Eg.bad{l:List Ke}{w w':World}{n:Nat}(h:Jn l=(([],[],[]),n))(hb:Below w.heap.size w w'):Eg l w (.returned (.tuple #[.agg #[.slice none 0 0,.slice none 0 0,.slice none 0 0],.int .i64 n])) w':=by
 unfold Eg;rw[h];exact⟨_,_,_,rfl,Je.nil_,Je.nil_,Je.nil_,hb⟩
theorem Eg.good{l:List Ke}{w w':World}{g:Kc}{v1 v2 v3:Value}(h:Jn l=(g,0))(h1:Je Nk w' w'.heap.size v1 g.1)(h2:Je Nk w' w'.heap.size v2 g.2.1)(h3:Je Vv w' w'.heap.size v3 g.2.2)(hb:Below w.heap.size w w'):Eg l w (.returned (.tuple #[.agg #[v1,v2,v3],.int .i64 0])) w':=by
 unfold Eg;rw[h];exact⟨_,_,_,rfl,h1,h2,h3,hb⟩
end Go.Proofs.YtmaojnmnbpomeaaGreatDoor
