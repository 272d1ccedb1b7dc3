/- A part. -/
import Derived.Test.YtmaojnmnbpomeaaGreatDoorVM10
set_option maxRecDepth 100000
set_option maxHeartbeats 64000000
namespace Go.Proofs.YtmaojnmnbpomeaaGreatDoor
open Go.RowKit
theorem oQ{l:List Ke}(h:Rh l=false):(∀ x∈l,∀ a∈x.2,a.length<=64)/\Da l<=4096/\l.length<=256:=by
 rw[mQ,Ym,Ym,Yk,Yk] at h;refine⟨fun x hx a ha=>?_,by omega,by omega⟩;have h1:=List.any_eq_false.1 (show (l.any fun x=>x.2.any fun a=>decide (64<a.length))=false from h.1.1) x hx;have h2:=List.any_eq_false.1 (Bool.not_eq_true _ ▸ h1:(x.2.any fun a=>decide (64<a.length))=false) a ha;simpa using h2
theorem Tn.setRow{α:Type}{O:aD α}{t T:TypeId}{w:World}{v:Value}{xs:List α}(h:Tn O t w w.heap.size v xs){g:Nat}{cur:Array Value}(hg:w.heap[g]? = some (.cells cur T (0,0)))(hT:T∉t::O.ts)(ys:Array Value):Je O.E (w.setRow g ys) (w.setRow g ys).heap.size v xs:=by
 have hk:Jg (t::O.ts) w (w.setRow g ys):=Rg hg hT;exact ((h.keep (.of_keepT hk)).more hk.1).sl
theorem Dk.more_b1{w:World}{P Q gn gt:Nat}{vN vT vR:Value}{B0 B1 B2:Nat}{ns ts:List Wd}{rs:List Jo}{css:List (List Value)}(h:Dk w P Q gn gt vN vT vR B0 B1 ns ts rs css)(hB:B1<=B2)(h2:B2<=w.heap.size):Dk w P Q gn gt vN vT vR B0 B2 ns ts rs css :=
 ⟨h.box,h.mn,h.mt,h.names,h.terms,h.rules,h.rrows.more hB,h.lo,h.b0,h2⟩
theorem Dk.uT{w:World}{P Q gn gt:Nat}{vN vT vR:Value}{B0 B1:Nat}{ns ts:List Wd}{rs:List Jo}{css:List (List Value)}(h:Dk w P Q gn gt vN vT vR B0 B1 ns ts rs css)(hs:∀ t∈ts,(Jp t).size<=maxLen):Tn dQ 9 w w.heap.size vT (ts.map Jp):=by
 have hf:(ts.map fun t=>[wv t]).flatten=ts.map wv:=by
  clear hs h
  induction ts with
  |nil=>rfl
  |cons s r ih=>rw[List.map_cons,List.flatten_cons,ih];rfl
 refine Tn.of_row (O:=dQ) (css:=ts.map fun t=>[wv t]) (by rw[hf,Qk];exact h.terms) ⟨by rw[Qk,Qk],fun i cs x hc hx=>?_⟩;rw[Qv] at hc hx;cases hi:ts[i]? with
 |none=>rw[hi] at hc;cases hc
 |some t =>
  rw[hi] at hc hx;injection hc with hc;injection hx with hx;subst hc hx;exact⟨rfl,hs t (Qp hi)⟩
theorem ll(v:Value)(l:List Ke)(w:World)(h:Je sn w w.heap.size v l)(hln:LnS l)(hn0:l.length<=1048576)(qmS:∀ x∈l,x.2.length<=1048576) :
  Calls Tryz.prog 111 #[v] w (Eg l w):=by
 obtain⟨A1,c1,rfl,uD,wT⟩:=h.form;unfold maxLen at wT;have Ag:Below w.heap.size w (w.alloc (.cells #[.slice none 0 0,.slice none 0 0,.slice none 0 0] 25)):=(Xr _ _).alloc (Ya _) _;have HL:=Lh (h.below Ag);have HS1:=Lh (Xn w (.cells #[.slice none 0 0,.slice none 0 0,.slice none 0 0] 25));have HZ1:=Lh (Xs w (.cells #[.slice none 0 0,.slice none 0 0,.slice none 0 0] 25));have HB1:=Lh Ag;obtain⟨S,hS⟩:=Xe w.heap.size;rw[<-hS] at HL HS1 HZ1;have HSE:=Lh hS;have io:=Lh hln;have iM:=Lh qmS;obtain⟨n,hn⟩:=Xe l.length;rw[<-hn] at HL uD hn0 |-;have HN:=Lh hn;clear h Ag hln qmS hn;go_enter Tryz.func111,Tryz.ntmps111;go_wp2_with fail;rw[<-hS];clear hS;generalize w.alloc (.cells #[.slice none 0 0,.slice none 0 0,.slice none 0 0] 25)=w1 at *;refine (qfK (.slice A1 n c1) l w1 (HL.o.more (by rw[HZ1.o];omega)) (by rw[<-HN.o];exact hn0) iM.o).mono ?_;rintro e w2 ⟨rfl,Ja⟩;have HS2:=Lh ((Ja.block S (by rw[HZ1.o];omega)).trans HS1.o);have HB2:=Lh (HB1.o.trans (Ja.mono (by rw[HZ1.o,HSE.o];omega)));have HL2:=Lh (HL.o.below (Ja.mono (by rw[HZ1.o];omega)));have nH:=Lh (show S<w2.heap.size by have:=Ja.size;rw[HZ1.o] at this;omega);clear Ja HS1 HB1 HL HZ1;rcases Yn (Rh l) with hg | hg
 ·have Ju:=Lh (Sy hg);rw[hg];clear hg;go_wp2_with (refine Zs none rfl ?_);refine Stop.go (Zn rfl 25 rfl rfl rfl (Vk HS2.o rfl rfl rfl rfl) ?_);have Dl:=Lh (Zi _ _ _ _ _ _ HS2.o:(w2.setRow S [.slice none 0 0,.slice none 0 0,.slice none 0 0].toArray).heap[S]? = _);have Db:=Lh (Zj HB2.o (Yi HSE.o.symm) [.slice none 0 0,.slice none 0 0,.slice none 0 0].toArray);generalize w2.setRow S [.slice none 0 0,.slice none 0 0,.slice none 0 0].toArray=wz at *;generalize ha:Act.put _ _ _=z9;simp[Act.put] at ha;subst ha;go_wp2_with fail;refine Ur (g:=S) rfl rfl rfl rfl Dl.o ?_;exact Eg.bad Ju.o Db.o
 ·have HG:=Lh hg;rw[hg];clear hg;obtain⟨P,hP⟩:=Xe w2.heap.size;have HNP:=Lt (He (((w2.alloc (.map #[] 0)).alloc (.map #[] 0)).alloc (.cells #[.map (some P),.map (some (P+1)),.slice none 0 0,.slice none 0 0,.slice none 0 0] 224)) P (P+2) P (P+1) (.slice none 0 0) [] []) (by
   have z1:(w2.alloc (.map #[] 0)).heap.size=P+1:=by rw[Xs,hP]
   have z2:((w2.alloc (.map #[] 0)).alloc (.map #[] 0)).heap.size=P+2:=by rw[Xs,z1]
   have m1:Nn (w2.alloc (.map #[] 0)) P []:=by rw[hP];exact Nn.made w2
   have m2:Nn ((w2.alloc (.map #[] 0)).alloc (.map #[] 0)) (P+1) []:=by rw[<-z1];exact Nn.made (w2.alloc (.map #[] 0))
   have b2:Below (w2.alloc (.map #[] 0)).heap.size (w2.alloc (.map #[] 0)) ((w2.alloc (.map #[] 0)).alloc (.map #[] 0)):=(Xr _ _).alloc (Ya _) _
   have b3:Below ((w2.alloc (.map #[] 0)).alloc (.map #[] 0)).heap.size ((w2.alloc (.map #[] 0)).alloc (.map #[] 0)) (((w2.alloc (.map #[] 0)).alloc (.map #[] 0)).alloc (.cells #[.map (some P),.map (some (P+1)),.slice none 0 0,.slice none 0 0,.slice none 0 0] 224)):=(Xr _ _).alloc (Ya _) _
   refine⟨?_,(m1.below b2).below b3,m2.below b3,Yz _ _ _ _,⟨Ya _,Yh _,by omega,by omega⟩⟩
   rw[<-z2]
   exact Xn _ _)
  have hb3:Below w2.heap.size w2 (((w2.alloc (.map #[] 0)).alloc (.map #[] 0)).alloc (.cells #[.map (some P),.map (some (P+1)),.slice none 0 0,.slice none 0 0,.slice none 0 0] 224)):=(((Xr _ _).alloc (Ya _) _).alloc (by rw[Xs];omega) _).alloc (by rw[Xs,Xs];omega) _;rw[<-hP] at hb3;have HBP:=Lh hb3;clear hb3;rw[<-hP] at nH;have hmm:=@run_makeMap Tryz.prog;go_wp2_with fail;rw[<-hP];clear hP hmm
  try rw[show P+1+1=P+2 from rfl]
  generalize (((w2.alloc (.map #[] 0)).alloc (.map #[] 0)).alloc (.cells #[.map (some P),.map (some (P+1)),.slice none 0 0,.slice none 0 0,.slice none 0 0] 224))=w3 at *;generalize P+2=Q at *;generalize P+1=gt at *;have HND0:=Lt ((Jt (l.take 0)).Nodup) (List.nodup_nil);go_loopw [22] (fun v22 wr=>∃(i:Nat)(vN:Value),i<=n/\v22=.int .i64 i/\Hid (He wr P Q P gt vN (Jt (l.take i)) (Jt (l.take i)))/\Hid ((Jt (l.take i)).Nodup)/\Hid (Below P w2 wr)) (fun v22 _=>n - (intOf v22).toNat);exact⟨0,_,by omega,rfl,HNP.o,HND0.o,HBP.o⟩;clear HNP HND0 HBP;obtain⟨i,vN,hi,rfl,HNP,HND,HBP⟩:=hrel;by_cases Ji:i<n
  ·have Wt:i<l.length:=by rw[<-HN.o];exact Ji
   obtain⟨b,off,cs,hA1,_,_,Zx,Zm⟩:=(HL2.o.below (HBP.o.mono (Yg nH.o))).get Wt (by decide);subst hA1;obtain⟨v2,rfl,_,Mi⟩:=Oc Zx;obtain⟨A2,c2,rfl,Ic,kX⟩:=Mi.form;unfold maxLen at kX;have dz:=Zm 0 _ rfl;have Cm:=Zm 1 _ rfl;simp only[show sn.size=2 from rfl,Yp,<-Yx] at dz Cm;have yD:=Lh (mC l Wt);have HTW:=Lh (zQ l Wt);clear Zm Mi Zx;generalize l[i]=x at *;obtain⟨nm,al⟩:=x;simp only at dz Cm yD HTW;obtain⟨T,rfl⟩:∃ T,nm=Jp T:=⟨Wp nm,(Dd nm).symm⟩;rw[Rc] at yD HTW;generalize al.length=al2 at *;clear Wt;have hb4:Below wr.heap.size wr (wr.alloc (.cells #[.string (Jp T),.slice A2 al2 c2] 227)):=(Xr _ _).alloc (Ya _) _;have hPw:P<=wr.heap.size:=by have:=HNP.o.lo;have:=HNP.o.lt;omega
   have HN4:=Lh (HNP.o.below hb4);have HB4:=Lh (HBP.o.trans (hb4.mono hPw));have HX4:=Lh (Xn wr (.cells #[.string (Jp T),.slice A2 al2 c2] 227));obtain⟨K6,hK6⟩:=Xe wr.heap.size;rw[<-hK6] at HX4;clear hb4 hPw HNP HBP;go_wp2_with fail;rw[<-hK6];clear hK6 dz Cm;generalize wr.alloc (.cells #[.string (Jp T),.slice A2 al2 c2] 227)=w4 at *;have HN5:=Lh HN4.o.drew;have HB5:=Lh HB4.o.drew;have HX5:=Lt (w4.drew.heap[K6]? = some (.cells #[.string (Jp T),.slice A2 al2 c2] 227 (0,0))) (HX4.o);have hq0:=(Uu HN5.o.box).1;have hk0:=(Kn HX5.o).1;have Ku:=(HN5.o.mn.look Kd iN T).1;clear HN4 HB4 HX4;refine Text.wt (by kernel_rfl) fun Q' hQ'=>?_;generalize w4.drew=w5 at *;by_cases Ua:T∈Jt (l.take i)
   ·have wR:(Instr.lookup 147 (.map (some P)) (.string (Jp T)) true).run Tryz.prog w5=.ok (.tuple #[.int .i64 ((Jt (l.take i)).idxOf T),.bool true]) w5:=by
     have oz:=Ku;rw[if_pos Ua,Yv Ua] at oz;exact oz
    have Ju:=Lh (eJ HG.o (HTW.o Ua));have wF:=Lh ((HB5.o.block S nH.o).trans HS2.o);have HBW:=Lh (HB2.o.trans (HB5.o.mono (by have:=HSE.o;have:=nH.o;omega)));clear Ku Ua;generalize (Jt (l.take i)).idxOf T=ix at *;go_wp2_with fail;refine⟨by rfl,?_⟩;clear wR;go_wp2_with (refine Zs none rfl ?_);refine Stop.go (Zn rfl 25 rfl rfl rfl (Vk wF.o rfl rfl rfl rfl) ?_);have Dl:=Lh (Zi _ _ _ _ _ _ wF.o:(w5.setRow S [.slice none 0 0,.slice none 0 0,.slice none 0 0].toArray).heap[S]? = _);have Db:=Lh (Zj HBW.o (Yi HSE.o.symm) [.slice none 0 0,.slice none 0 0,.slice none 0 0].toArray);generalize w5.setRow S [.slice none 0 0,.slice none 0 0,.slice none 0 0].toArray=wz at *;generalize ha:Act.put _ _ _=z9;simp[Act.put] at ha;subst ha;go_wp2_with fail;refine Ur (g:=S) rfl rfl rfl rfl Dl.o ?_;exact Eg.bad Ju.o Db.o
   ·have wR:(Instr.lookup 147 (.map (some P)) (.string (Jp T)) true).run Tryz.prog w5=.ok (.tuple #[.int .i64 0,.bool false]) w5:=by
     have oz:=Ku;rw[if_neg Ua,Yw Ua] at oz;exact oz
    go_wp2_with fail;refine⟨by rfl,?_⟩;have HN6:=Lh HN5.o.drew;have HB6:=Lh HB5.o.drew;have HX6:=Lt (w5.drew.heap[K6]? = some (.cells #[.string (Jp T),.slice A2 al2 c2] 227 (0,0))) (HX5.o);obtain⟨W',qeN,hmn,Lz,Ek⟩:=HN6.o.mn.put Kd Ua;have iL:=Lh (show (Jt (l.take i)).length=i by unfold Jt;rw[Qk,Qq,<-HN.o];omega);rw[iL.o] at qeN;have HN7:=Lh (HN6.o.put hmn Lz);have HB7:=Lh (HB6.o.grown Lz (by have:=HN6.o.lo;have:=HN6.o.lt;omega) (fun k hk=>by injection hk with hk;omega));have HX7:=Lh ((Jg.of_map (ts:=[227]) HN6.o.mn Lz).2 K6 _ _ (by simp) HX6.o);have iG:(Instr.mapUpdate 147 (.map (some P)) (.string (Jp T)) (.int .i64 i)).run Tryz.prog w5.drew=.ok () W':=qeN;have zoA:w5.drew.cell? ⟨Q,0,none⟩=some (.map (some P)):=hq0;have zpA:w5.drew.cell? ⟨K6,0,none⟩=some (.string (Jp T)):=hk0;have HNDN:=Lt ((Jt (l.take (i+1))).Nodup) (by
     rw[yD.o,List.nodup_append]
     exact⟨HND.o,by simp,fun a ha c hc e=>Ua (by rw[Qi.1 hc] at e;rw[<-e];exact ha)⟩)
    rw[<-yD.o] at HN7;clear Ku Ua qeN hmn Lz Ek wR hq0 hk0 HN5 HB5 HX5;go_wp2_with fail;refine Text.wt (by kernel_rfl) fun Q' hQ'=>?_;generalize w5.drew=w6 at *;go_wp2_with fail;refine⟨by rfl,?_⟩;clear iG zoA zpA;obtain⟨AN,cN,hvN,hN1,hN2⟩:=Zo HN7.o.names;rw[iL.o] at hvN hN1;subst hvN;unfold maxLen at hN2;clear HN6 HB6 HX6;have fI:=Lt (∀ W:World,W.heap[Q]? = some (.cells #[.map (some P),.map (some gt),.slice AN i cN,.slice none 0 0,.slice none 0 0] 224 (0,0))->W.heap[K6]? = some (.cells #[.string (Jp T),.slice A2 al2 c2] 227 (0,0))->W.cell? ⟨Q,2,none⟩=some (.slice AN i cN)/\W.cell? ⟨K6,0,none⟩=some (.string (Jp T))) (fun W h1 h2=>⟨(Uu h1).2.2.1,(Kn h2).1⟩);go_wp2_with fail;have Ei:=Lh (fI.o W'.drew HN7.o.box HX7.o);refine Gi (fun w'=>w'.cell? ⟨Q,2,none⟩=some (.slice AN i cN)/\w'.cell? ⟨K6,0,none⟩=some (.string (Jp T))) [10] 14 (by kernel_rfl) rfl ?_;have HN8:=Lh HN7.o.drew;have HB8:=Lh HB7.o.drew;have HX8:=Lt (W'.drew.heap[K6]? = some (.cells #[.string (Jp T),.slice A2 al2 c2] 227 (0,0))) (HX7.o);clear HN7 HB7 HX7;generalize W'.drew=w8 at *;refine Lg 0 (.pointer (some ⟨Q,0,none⟩)) rfl (by kernel_rfl) rfl (fun wq=>by go_simp) Ei.o ?_;generalize ha:Act.put _ _ _=z9;simp[Act.put] at ha;subst ha;refine Lg 1 (.pointer (some ⟨Q,0,none⟩)) rfl (by kernel_rfl) rfl (fun wq=>by go_simp) Ei.o ?_;generalize ha:Act.put _ _ _=z9;simp[Act.put] at ha;subst ha;refine Lg 2 (.pointer (some ⟨Q,0,none⟩)) rfl (by kernel_rfl) rfl (fun wq=>by go_simp) Ei.o ?_;generalize ha:Act.put _ _ _=z9;simp[Act.put] at ha;subst ha;refine Lg 3 (.pointer (some ⟨Q,2,none⟩)) rfl (by kernel_rfl) rfl (fun wq=>by go_simp) Ei.o ?_;generalize ha:Act.put _ _ _=z9;simp[Act.put] at ha;subst ha;refine Lg 4 (.pointer (some ⟨Q,2,none⟩)) rfl (by kernel_rfl) rfl (fun wq=>by go_simp) Ei.o ?_;generalize ha:Act.put _ _ _=z9;simp[Act.put] at ha;subst ha;refine jp 5 (.slice AN i cN) rfl (by kernel_rfl) rfl (fun wq dW=>Wi rfl rfl (Et (e:=9) (by kernel_rfl) dW.1)) Ei.o ?_;generalize ha:Act.put _ _ _=z9;simp[Act.put] at ha;subst ha;refine Lg 6 (.pointer (some ⟨K6,0,none⟩)) rfl (by kernel_rfl) rfl (fun wq=>by go_simp) Ei.o ?_;generalize ha:Act.put _ _ _=z9;simp[Act.put] at ha;subst ha;refine jp 7 (.string (Jp T)) rfl (by kernel_rfl) rfl (fun wq dW=>Wi rfl rfl (Bd (by kernel_rfl) dW.2)) Ei.o ?_;generalize ha:Act.put _ _ _=z9;simp[Act.put] at ha;subst ha;have HB9:=Lh ((Xr w8.heap.size w8).alloc (Ya _) (.cells #[.string (Jp T)] 9));have Ss:=Lh (Xn w8 (.cells #[.string (Jp T)] 9));have ij:=Lt (w8.heap.size+1=(w8.alloc (.cells #[.string (Jp T)] 9)).heap.size) ((Xs _ _).symm);refine Jz (i:=8) (by kernel_rfl) rfl (fun Q' hQ'=>?_);go_wp2_with fail;generalize w8.alloc (.cells #[.string (Jp T)] 9)=w9 at *;have HN9:=Lh (HN8.o.below HB9.o);have HX9:=Lh ((HB9.o.block K6 (gl HX8.o)).trans HX8.o);have c_:=Lh (HB8.o.trans (HB9.o.mono (by have:=HN8.o.lo;have:=HN8.o.lt;omega)));refine⟨dv (fI.o w9 HN9.o.box HX9.o),?_⟩;have Hr:=HN9.o.names;rw[iL.o] at Hr;refine Jz (i:=9) (by kernel_rfl) rfl (fun Q' hQ'=>?_);refine Zz (m:=1) iS rfl rfl rfl rfl Hr (Rd.row (B:=w9.heap.size) Ss.o (by rw[<-ij.o];exact Ye _)) rfl (by simp[Value.oneCell']) (by simp only[maxLen];omega) (by omega) HN9.o.lt ?_;intro sh iO hown hg _ _;obtain⟨A8,c8,mL,_,_⟩:=Zo hown;subst mL;have HN12:=Lh (He.snoc (T:=T) HN9.o (by rw[iL.o];exact hown) hg);rw[<-yD.o] at HN12;have kR:=Lh (Zq Hr hg HN9.o.box (by decide));have zhF:=Lh (Zq Hr hg HX9.o (by decide));have qhD:=Lh (Zt c_.o hg Hr (by have:=HN9.o.lo;omega) (by have:=HN9.o.lo;have:=HN9.o.lt;omega));have HB12:=Lh (qhD.o.setCell (p:=⟨Q,2,none⟩) HN9.o.lo.2.2.1 (.slice A8 (i+1) c8));clear hown hg Hr;generalize ha:Act.put _ _ _=z9;simp[Act.put] at ha;subst ha;refine hQ' _ _ ⟨dv (fI.o iO kR.o zhF.o),?_⟩;have q2:=(Uu kR.o).2.2.1;have f2:iO.frozen? ⟨Q,2,none⟩=false:=by simp[World.frozen?,kR.o]
    clear Ei fI HN8 HB8 HX8 HN9 c_ HX9 HB9 Ss ij;refine Jz (i:=10) (by kernel_rfl) rfl (fun Q' hQ'=>?_);go_wp2_with fail;refine⟨Vg (by kernel_rfl),?_⟩;refine Jz (i:=11) (by kernel_rfl) rfl (fun Q' hQ'=>?_);go_wp2_with fail;refine⟨Vg (by kernel_rfl),?_⟩;refine Jz (i:=12) (by kernel_rfl) rfl (fun Q' hQ'=>?_);go_wp2_with fail;refine⟨Vg (by kernel_rfl),?_⟩;refine Jz (i:=13) (by kernel_rfl) rfl (fun Q' hQ'=>?_);go_wp2_with fail;refine⟨Vg (by kernel_rfl),?_⟩;refine Cs (by kernel_rfl) ?_ _;clear q2 f2 kR zhF qhD;go_wp2_with fail;go_roundw;exact⟨i+1,_,by omega,by go_num,HN12.o,HNDN.o,HB12.o⟩;simp[intOf];omega
  ·obtain rfl:i=n:=by omega
   have HTK:=Lt (l.take i=l) (Qd (by rw[<-HN.o];exact Ya _));rw[HTK.o] at HNP HND;have HNS:=Lh (show ∀ t∈Jt l,(Jp t).size<=maxLen from fun t ht=>by
    obtain⟨x,hx,rfl⟩:=Xa.1 ht
    rw[Dd]
    exact (io.o x hx).1)
   have HNM:=Lh (HNP.o.done HNS.o);obtain⟨B0,hB0⟩:=Xe wr.heap.size;have HPB:=Lh (show P<=B0 by have:=HNP.o.lo;have:=HNP.o.lt;omega);rw[<-hB0] at HNM;have HNM':=Lt (Dk wr P Q P gt vN (.slice none 0 0) (.slice none 0 0) B0 wr.heap.size (Jt l) [] [] []) (hB0 ▸ HNM.o);have iL:=Lh (show (Jt l).length=i by unfold Jt;rw[Qk,<-HN.o]);obtain⟨AN,cN,hvN,hN1,hN2⟩:=Zo HNP.o.names;rw[iL.o] at hvN hN1;subst hvN;unfold maxLen at hN2;have HGF:=Lh (oQ HG.o);have HE0:=Lt (Kz (Jt l) 0 [] [] l=Kz (Jt l) 0 [] [] (l.drop 0)) (rfl);have HR0:=Lt (([]:List Jo).length=Da (l.take 0)) (rfl);have HT0:=Lt (jl []) (fun t ht=>by cases ht);clear hB0 HNM HNP HNS HTK hi Ji;go_wp2_with fail;generalize wr=wo at *;go_loopw [62] (fun v62 wq=>∃(j:Nat)(ts:List Wd)(rs:List Jo)(vT vR:Value)(css:List (List Value)),j<=i/\v62=.int .i64 j/\ts.length<=64*rs.length/\rs.length<=4096/\Hid (rs.length=Da (l.take j))/\Hid (Kz (Jt l) 0 [] [] l=Kz (Jt l) j ts rs (l.drop j))/\Hid (jl ts)/\Hid (Dk wq P Q P gt (.slice AN i cN) vT vR B0 wq.heap.size (Jt l) ts rs css)/\Hid (Below P w2 wq)) (fun v62 _=>i - (intOf v62).toNat);exact⟨0,[],[],_,_,[],by omega,rfl,by simp,by simp,HR0.o,HE0.o,HT0.o,HNM'.o,HBP.o⟩;clear HR0 HE0 HT0 HNM' HBP;obtain⟨j,ts,rs,vT,vR,css,hj,rfl,htr,hr4,L_,HEQ,HTS,HNM,HBP⟩:=hrel;have HSR:=Lh ((HBP.o.block S nH.o).trans HS2.o);have HBW:=Lh (HB2.o.trans (HBP.o.mono (by have:=HSE.o;have:=nH.o;omega)));have hPw:P<=wr.heap.size:=by have:=HNM.o.b0;have:=HPB.o;omega
   by_cases Ji:j<i
   ·have Mn:j<l.length:=by rw[<-HN.o];exact Ji
    obtain⟨b,off,cs,hA1,_,_,Zx,Zm⟩:=(HL2.o.below (HBP.o.mono (Yg nH.o))).get Mn (by decide);subst hA1;obtain⟨v2,rfl,_,Mi⟩:=Oc Zx;obtain⟨A2,c2,rfl,Ic,kX⟩:=Mi.form;unfold maxLen at kX;have dz:=Zm 0 _ rfl;have Cm:=Zm 1 _ rfl;simp only[show sn.size=2 from rfl,Yp,<-Yx] at dz Cm;have HST:=Lh (tR (ns:=Jt l) (ts:=ts) (rs:=rs) Mn);have HAS:=Lh (Hb l Mn);have zbT:=Lh (rl l (j+1));have quN:=Lh (io.o l[j] (Qg Mn)).2;have HGX:=Lh (HGF.o.1 l[j] (Qg Mn));have HSL:=Lh Mi;clear Zm Mi Zx;generalize l[j]=x at *;obtain⟨nm,al⟩:=x;simp only at dz Cm HST HAS quN HGX HSL Ic;obtain⟨m,hm⟩:=Xe al.length;rw[<-hm] at Ic Cm HSL HAS;have HM:=Lh hm;clear hm Mn;have hb4:Below wr.heap.size wr (wr.alloc (.cells #[.string nm,.slice A2 m c2] 227)):=(Xr _ _).alloc (Ya _) _;have HNM4:=Lt (Dk (wr.alloc (.cells #[.string nm,.slice A2 m c2] 227)) P Q P gt (.slice AN i cN) vT vR B0 (wr.alloc (.cells #[.string nm,.slice A2 m c2] 227)).heap.size (Jt l) ts rs css) ((HNM.o.below hb4).more_b1 (Yg (by rw[Xs];omega)) (Ya _));have HB4:=Lh (HBP.o.trans (hb4.mono hPw));have zhN:=Lh (HSL.o.below (hb4.mono (by have:=nH.o;omega)));have Iu:(wr.alloc (.cells #[.string nm,.slice A2 m c2] 227)).cell? ⟨wr.heap.size,1,none⟩=some (.slice A2 m c2):=(Kn (Xn wr (.cells #[.string nm,.slice A2 m c2] 227))).2;have HEQ4:=Lt (Kz (Jt l) 0 [] [] l=match Cf (Jt l) (j:Int) ts rs (al.drop 0) with | none=>none | some (Bk,ts')=>Kz (Jt l) (j+1) ts' Bk (l.drop (j+1))) (HEQ.o.trans HST.o)
    have HR4:=Lt (rs.length=Da (l.take j)+0) (L_.o);clear hb4 HNM HBP HSL HSR HBW HEQ HST L_ hPw;go_wp2_with fail;clear dz Cm Iu;generalize wr.alloc (.cells #[.string nm,.slice A2 m c2] 227)=w4 at *;go_loopw [70] (fun v70 wq=>∃(k:Nat)(ts:List Wd)(rs:List Jo)(vT vR:Value)(css:List (List Value)),k<=m/\v70=.int .i64 k/\ts.length<=64*rs.length/\rs.length<=4096/\Hid (rs.length=Da (l.take j)+k)/\Hid (Kz (Jt l) 0 [] [] l=match Cf (Jt l) (j:Int) ts rs (al.drop k) with | none=>none | some (Bk,ts')=>Kz (Jt l) (j+1) ts' Bk (l.drop (j+1)))/\Hid (jl ts)/\Hid (Dk wq P Q P gt (.slice AN i cN) vT vR B0 wq.heap.size (Jt l) ts rs css)/\Hid (Below P w2 wq)) (fun v70 _=>m - (intOf v70).toNat)
    exact⟨0,ts,rs,vT,vR,css,by omega,rfl,htr,hr4,HR4.o,HEQ4.o,HTS.o,HNM4.o,HB4.o⟩;have zsI:=Lh (show ∀ W,Below P w2 W->Je (Th pR) W S (.slice A2 m c2) al from fun W hb=>by
     have h1:Je (Th pR) w2 S (.slice A2 m c2) al:=zhN.o.keep fun p hp=>(HB4.o.cell (Nat.lt_trans hp nH.o)).symm
     exact h1.below (hb.mono (Yg nH.o)))
    clear HR4 HEQ4 HTS HNM4 HB4 zhN htr hr4;clear ts rs vT vR css;obtain⟨k,ts,rs,vT,vR,css,hk,rfl,htr,hr4,HR4,HEQ4,HTS,HNM4,HB4⟩:=hrel;by_cases Eu:k<m
    ·have hka:k<al.length:=by rw[<-HM.o];exact Eu
     obtain⟨b7,o7,cs,rfl,_,_,Zx,Zm⟩:=(zsI.o wr HB4.o).get hka (by decide);obtain⟨v7,rfl,hs7⟩:=Zx;obtain⟨A7,c7,rfl,hl7,yn⟩:=hs7.form;unfold maxLen at yn;have zb:=Zm 0 _ rfl;simp only[show (Th pR).size=1 from rfl,Yr,Yp] at zb;have HST:=Lh (bv (ns:=Jt l) (ts:=ts) (rs:=rs) (i:=(j:Int)) hka);have HLA:=Lh (quN.o al[k] (Qg hka));have HGA:=Lh (HGX.o al[k] (Qg hka));have HS7:=Lh (hs7.more (Yg nH.o));clear Zm hs7;generalize al[k]=a at *;clear hka;have hr5:rs.length+1<=4096:=by have h1:=HR4.o;have h2:=HAS.o;have h3:=zbT.o;have h4:=HGF.o.2.1;omega
     have HRU:=Lh (qjO j (.slice A7 a.length c7) a wr P Q P gt (.slice AN i cN) vT vR B0 (Jt l) ts rs css HNM4.o HS7.o (by omega) (by rw[iL.o];exact hn0) (by omega) HGA.o (by omega));obtain⟨q,hq⟩:=Xe a.length;rw[<-hq] at HRU zb HGA;have HQQ:=Lh hq;clear hq HS7 hl7;have qsW:=HGA.o;go_wp2_with fail;clear zb;refine HRU.o.mono ?_;rintro e w6 hst;rcases hst with ⟨qvR,rfl,hb6⟩ | ⟨r,ts2,vT2,vR2,css2,qlR,zfI,rfl,hm6,hb6⟩
     ·have Ju:=Lh (jD HG.o HND.o (by rw[HEQ4.o,HST.o,qvR]));have HB6:=Lh (HB4.o.trans hb6);have wE:=Lh ((HB6.o.block S nH.o).trans HS2.o);have HBW:=Lh (HB2.o.trans (HB6.o.mono (by have:=HSE.o;have:=nH.o;omega)));clear hb6 qvR;go_wp2_with (refine Zs none rfl ?_);refine Stop.go (Zn rfl 25 rfl rfl rfl (Vk wE.o rfl rfl rfl rfl) ?_);have Dl:=Lh (Zi _ _ _ _ _ _ wE.o:(w6.setRow S [.slice none 0 0,.slice none 0 0,.slice none 0 0].toArray).heap[S]? = _);have Db:=Lh (Zj HBW.o (Yi HSE.o.symm) [.slice none 0 0,.slice none 0 0,.slice none 0 0].toArray);generalize w6.setRow S [.slice none 0 0,.slice none 0 0,.slice none 0 0].toArray=wz at *;generalize ha:Act.put _ _ _=z9;simp[Act.put] at ha;subst ha;go_wp2_with fail;refine Ur (g:=S) rfl rfl rfl rfl Dl.o ?_;exact Eg.bad Ju.o Db.o
     ·have HM6:=Lh hm6;have HB6:=Lh (HB4.o.trans hb6);have HTS6:=Lh (qoK a ts [] ts2 r qlR HLA.o HTS.o);have HEQ6:=Lh (show Kz (Jt l) 0 [] [] l=match Cf (Jt l) (j:Int) ts2 (rs++[((j:Int),r)]) (al.drop (k+1)) with | none=>none | some (Bk,ts')=>Kz (Jt l) (j+1) ts' Bk (l.drop (j+1)) by rw[HEQ4.o,HST.o,qlR])
      have HR6:=Lh (show (rs++[((j:Int),r)]).length=Da (l.take j)+(k+1) by rw[Qe,Qf,HR4.o];omega);have ht6:ts2.length<=64*(rs++[((j:Int),r)]).length:=by rw[Qe,Qf];have:=HQQ.o;omega
      have hr6:(rs++[((j:Int),r)]).length<=4096:=by rw[Qe,Qf];exact hr5
      clear hm6 hb6 qlR zfI;go_wp2_with fail;go_roundw;exact⟨k+1,ts2,_,vT2,vR2,css2,by omega,by go_num,ht6,hr6,HR6.o,HEQ6.o,HTS6.o,HM6.o,HB6.o⟩;simp[intOf];omega
    ·obtain rfl:k=m:=by omega
     have HEQ5:=Lh (show Kz (Jt l) 0 [] [] l=Kz (Jt l) (j+1) ts rs (l.drop (j+1)) by
      rw[HEQ4.o,Xl (by rw[<-HM.o];exact Ya _)];rfl)
     have HR5:=Lh (show rs.length=Da (l.take (j+1)) by rw[HR4.o,HAS.o]);go_wp2_with fail;go_roundw;exact⟨j+1,ts,rs,vT,vR,css,by omega,by go_num,htr,hr4,HR5.o,HEQ5.o,HTS.o,HNM4.o,HB4.o⟩;simp[intOf];omega
   ·obtain rfl:j=i:=by omega
    have HLR:=Lh (show Kz (Jt l) 0 [] [] l=some (rs,ts) by
     rw[HEQ.o,Xl (by rw[<-HN.o];exact Ya _)];rfl)
    have Ju:=Lh (jC HG.o HND.o HLR.o);rw[<-HN.o] at Ju;obtain⟨AT,cT,hvT,hT1,hT2⟩:=Zo HNM.o.terms;subst hvT;obtain⟨AR,cR,hvR,hR1,hR2⟩:=Zo HNM.o.rules;subst hvR;unfold maxLen at hT2 hR2;have HUN:=Lt (Tn dQ 9 wr wr.heap.size (.slice AN j cN) ((Jt l).map Jp)) (HNM.o.names.more HNM.o.b0);have HUT:=Lh (HNM.o.uT HTS.o);have HUR:=Lt (Tn Gv 63 wr wr.heap.size (.slice AR rs.length cR) rs) (Tn.of_row (O:=Gv) HNM.o.rules (HNM.o.rrows.more HNM.o.b1));have zaS:=Lh HNM.o.slR;have Em:=Lh HNM.o.box;obtain⟨t,ht⟩:=Xe ts.length;obtain⟨q,hq⟩:=Xe rs.length;rw[<-ht] at htr hT1 Ju HUT Em;rw[<-hq] at htr hr4 hR1 HUR zaS Em;clear ht hq HNM HEQ L_;obtain⟨q0,q1,q2,q3,q4⟩:=Uu Em.o;clear q0 q1;go_wp2_with fail;refine Text.wt (by kernel_rfl) fun Q' hQ'=>?_;have wF:=Lt (wr.drew.heap[S]? = some (.cells #[.slice none 0 0,.slice none 0 0,.slice none 0 0] 25 (0,0))) (HSR.o);have HB5:=Lh HBW.o.drew;have hq2:wr.drew.cell? ⟨Q,2,none⟩=some (.slice AN j cN):=q2;have hq3:wr.drew.cell? ⟨Q,3,none⟩=some (.slice AT t cT):=q3;have hq4:wr.drew.cell? ⟨Q,4,none⟩=some (.slice AR q cR):=q4;have hbd:Below wr.heap.size wr wr.drew:=(Xr _ _).drew;have zrR:=Lt (Tn dQ 9 wr.drew wr.drew.heap.size (.slice AN j cN) ((Jt l).map Jp)) (HUN.o.keep (.of_below hbd));have zrP:=Lt (Tn dQ 9 wr.drew wr.drew.heap.size (.slice AT t cT) (ts.map Jp)) (HUT.o.keep (.of_below hbd));have zrQ:=Lt (Tn Gv 63 wr.drew wr.drew.heap.size (.slice AR q cR) rs) (HUR.o.keep (.of_below hbd));have zsE:=Lt (Je Vv wr.drew wr.drew.heap.size (.slice AR q cR) rs) (zaS.o.below hbd);clear HSR HBW q2 q3 q4 hbd HUN HUT HUR zaS Em HBP;generalize wr.drew=w5 at *;by_cases xT:256<j+t
    ·have g1:decide ((256:Int)<(j:Int)+(t:Int))=true:=by simp;omega
     have Rw:=Lt (Jn l=(([],[],[]),19)) (Ju.o.trans (if_pos xT));clear xT;go_wp2_with fail;refine⟨by rfl,?_⟩;clear hq2 hq3 hq4;go_wp2_with (refine Zs none rfl ?_);refine Stop.go (Zn rfl 25 rfl rfl rfl (Vk wF.o rfl rfl rfl rfl) ?_);have Dl:=Lh (Zi _ _ _ _ _ _ wF.o:(w5.setRow S [.slice none 0 0,.slice none 0 0,.slice none 0 0].toArray).heap[S]? = _);have Db:=Lh (Zj HB5.o (Yi HSE.o.symm) [.slice none 0 0,.slice none 0 0,.slice none 0 0].toArray);generalize w5.setRow S [.slice none 0 0,.slice none 0 0,.slice none 0 0].toArray=wz at *;generalize ha:Act.put _ _ _=z9;simp[Act.put] at ha;subst ha;go_wp2_with fail;refine Ur (g:=S) rfl rfl rfl rfl Dl.o ?_;exact Eg.bad Rw.o Db.o
    ·have g1:decide ((256:Int)<(j:Int)+(t:Int))=false:=by simp;omega
     have kP:=Lh (Ju.o.trans (if_neg xT));clear xT;go_wp2_with fail;refine⟨by rfl,?_⟩;go_wp2_with fail;refine (yI (.slice AR q cR) rs w5 zsE.o).mono ?_;rintro e w6 ⟨rfl,hb6⟩;have wE:=Lh ((hb6.block S (gl wF.o)).trans wF.o);have HB6:=Lh (HB5.o.trans (hb6.mono HB5.o.size));by_cases So:rs.Nodup
     ·have qpE:=Lh (show Jn l=((l.map fun x=>x.1,ts.map Jp,rs),0) from kP.o.trans (if_neg (fun e=>e So)));rw[show decide (¬ rs.Nodup)=false from Yw fun e=>e So];have hq2':=(hb6.cell (p:=⟨Q,2,none⟩) (Zl w5 _ hq2)).trans hq2;have hq3':=(hb6.cell (p:=⟨Q,3,none⟩) (Zl w5 _ hq3)).trans hq3;have hq4':=(hb6.cell (p:=⟨Q,4,none⟩) (Zl w5 _ hq4)).trans hq4;have HN6:=Lh (show Je Nk (w6.setRow S [.slice AN j cN,.slice AT t cT,.slice AR q cR].toArray) (w6.setRow S [.slice AN j cN,.slice AT t cT,.slice AR q cR].toArray).heap.size (.slice AN j cN) (l.map fun x=>x.1) from by
       have h1:=Tn.setRow ((zrR.o.keep (.of_below hb6)).more hb6.size) wE.o (by decide) [.slice AN j cN,.slice AT t cT,.slice AR q cR].toArray
       have e1:(Jt l).map Jp=l.map fun x=>x.1:=by
        unfold Jt
        rw[List.map_map]
        exact List.map_congr_left fun x _=>Dd x.1
       rw[e1] at h1
       exact h1)
      have HT6:=Lh (Tn.setRow ((zrP.o.keep (.of_below hb6)).more hb6.size) wE.o (by decide) [.slice AN j cN,.slice AT t cT,.slice AR q cR].toArray);have HR6:=Lh (Tn.setRow ((zrQ.o.keep (.of_below hb6)).more hb6.size) wE.o (by decide) [.slice AN j cN,.slice AT t cT,.slice AR q cR].toArray);have Db:=Lh (Zj HB6.o (Yi HSE.o.symm) [.slice AN j cN,.slice AT t cT,.slice AR q cR].toArray);have HRW:=Lh (Zi _ _ _ _ _ _ wE.o:(w6.setRow S [.slice AN j cN,.slice AT t cT,.slice AR q cR].toArray).heap[S]? = _);clear hb6 So hq2 hq3 hq4;go_wp2_with (refine Zs none rfl ?_);refine Stop.go (Zn rfl 25 rfl rfl rfl (Vk wE.o rfl rfl rfl rfl) ?_);generalize w6.setRow S [.slice AN j cN,.slice AT t cT,.slice AR q cR].toArray=wz at *;generalize ha:Act.put _ _ _=z9;simp[Act.put] at ha;subst ha;go_wp2_with fail;refine Ur (g:=S) rfl rfl rfl rfl HRW.o ?_;exact Eg.good qpE.o HN6.o HT6.o HR6.o Db.o
     ·have Rw:=Lt (Jn l=(([],[],[]),15)) (kP.o.trans (if_pos So));rw[show decide (¬ rs.Nodup)=true from Yv So];clear hb6 So hq2 hq3 hq4;go_wp2_with (refine Zs none rfl ?_);refine Stop.go (Zn rfl 25 rfl rfl rfl (Vk wE.o rfl rfl rfl rfl) ?_);have Dl:=Lh (Zi _ _ _ _ _ _ wE.o:(w6.setRow S [.slice none 0 0,.slice none 0 0,.slice none 0 0].toArray).heap[S]? = _);have Db:=Lh (Zj HB6.o (Yi HSE.o.symm) [.slice none 0 0,.slice none 0 0,.slice none 0 0].toArray);generalize w6.setRow S [.slice none 0 0,.slice none 0 0,.slice none 0 0].toArray=wz at *;generalize ha:Act.put _ _ _=z9;simp[Act.put] at ha;subst ha;go_wp2_with fail;refine Ur (g:=S) rfl rfl rfl rfl Dl.o ?_;exact Eg.bad Rw.o Db.o
open Go.Shelf
open Go.RowKit Go.Shelf
def zyG(w w':World):Prop:=∀ ts:List TypeId,286∉ts->5∉ts->Jg ts w w'
theorem zdL{w:World}{B:Nat}{v:Value}{xs:List Wd}(h:Je eW w B v xs):Je Nk w B v (xs.map Jp):=by
 obtain⟨A,c,css,e,h1,h2,h3,h4,h5⟩:=h;refine⟨A,c,css,by rw[Qk];exact e,by rw[Qk];exact h1,h2,by rw[Qk];exact h3,h4,fun i cs x hc hx=>?_⟩;rw[Qv] at hx;cases hxi:xs[i]? with
 |none=>rw[hxi] at hx;cases hx
 |some y =>
  rw[hxi] at hx;injection hx with hx;subst hx;exact h5 i cs y hc hxi
structure nL(w:World)(B:Nat)(v1 v2 v3:Value)(g:Kc):Prop where
 names:Je Nk w B v1 g.1
 terms:Je Nk w B v2 g.2.1
 rules:Je Vv w B v3 g.2.2
section
variable {w w':World} {B B' N:Nat} {v1 v2 v3:Value} {g:Kc}
theorem nL.fut(h:nL w B v1 v2 v3 g)(hb:Below N w w')(h1:B<=N)(h2:B<=B'):nL w' B' v1 v2 v3 g:=⟨h.names.fut hb h1 h2,h.terms.fut hb h1 h2,h.rules.fut hb h1 h2⟩
theorem nL.zero:nL w B (.slice none 0 0) (.slice none 0 0) (.slice none 0 0) ([],[],[]):=⟨Je.nil_,Je.nil_,Je.nil_⟩
theorem nL.form(h:nL w B v1 v2 v3 g):∃ A1 A2 A3 c1 c2 c3,v1=.slice A1 g.1.length c1/\v2=.slice A2 g.2.1.length c2/\v3=.slice A3 g.2.2.length c3:=by
 obtain⟨A1,c1,rfl,_⟩:=h.names.form;obtain⟨A2,c2,rfl,_⟩:=h.terms.form;obtain⟨A3,c3,rfl,_⟩:=h.rules.form;exact⟨_,_,_,_,_,_,rfl,rfl,rfl⟩
end
def Py(g:Kc):Kc:=if Uj g=true then Jk g else ([],[],[])
theorem gO(g:Kc):((g.1.map Wp).map Jp,(g.2.1.map Wp).map Jp,g.2.2)=g:=by
 have e:∀ l:List ByteArray,(l.map Wp).map Jp=l:=fun l=>by
  rw[List.map_map]
  conv=>rhs;rw[<-List.map_id l]
  exact List.map_congr_left fun x _=>Dd x
 rw[e,e]
def qpO(g:Kc)(w:World)(e:Ending)(w':World):Prop:=∃ u1 u2 u3,e=.returned (.agg #[u1,u2,u3])/\(∀ w'':World,(∀ b,w.heap.size<=b->b<w'.heap.size->w''.heap[b]? = w'.heap[b]?)->nL w'' w''.heap.size u1 u2 u3 (Py g))/\Below w.heap.size w w'
theorem fq(v1 v2 v3:Value)(g:Kc)(w:World)(hb:Uj g=false)(Ek:g.1.length+g.2.1.length<=4611686018427387904)(h:nL w w.heap.size v1 v2 v3 g) :
  Calls Tryz.prog 29 #[.agg #[v1,v2,v3]] w (qpO g w):=by
 obtain⟨A1,A2,A3,c1,c2,c3,rfl,rfl,rfl⟩:=h.form;have HC:=Lt (Py g=([],[],[])) (if_neg (by rw[hb];decide));obtain⟨S,hS⟩:=Xe w.heap.size;have HB1:=Lh (show Below S w ((w.alloc (.cells #[.slice A1 g.1.length c1,.slice A2 g.2.1.length c2,.slice A3 g.2.2.length c3] 25)).alloc (.cells #[.slice none 0 0,.slice none 0 0,.slice none 0 0] 25)) from
  ((Xr S w).alloc (Yi hS) _).alloc (by rw[Xs];omega) _)
 have HR1:=Lh (show ((w.alloc (.cells #[.slice A1 g.1.length c1,.slice A2 g.2.1.length c2,.slice A3 g.2.2.length c3] 25)).alloc (.cells #[.slice none 0 0,.slice none 0 0,.slice none 0 0] 25)).heap[S+1]? = some (.cells #[.slice none 0 0,.slice none 0 0,.slice none 0 0] 25 (0,0)) by
  have:=Xn (w.alloc (.cells #[.slice A1 g.1.length c1,.slice A2 g.2.1.length c2,.slice A3 g.2.2.length c3] 25)) (.cells #[.slice none 0 0,.slice none 0 0,.slice none 0 0] 25)
  rwa [Xs,<-hS] at this)
 rw[<-hS] at h;have qoW:=Lh (fun(W:World)(hb:Below S w W)(hs:S<=W.heap.size)=>Tc (.slice A1 g.1.length c1) (.slice A2 g.2.1.length c2) (.slice A3 g.2.2.length c3) g.1 g.2.1 g.2.2 W Ek (h.names.fut hb (Ya _) hs) (h.terms.fut hb (Ya _) hs) (h.rules.fut hb (Ya _) hs));have HBB:=Lh hb;have HSE:=Lh hS;clear h hb;generalize g.1.length=n at *;generalize g.2.1.length=m at *;generalize g.2.2.length=q at *;go_enter Tryz.func29,Tryz.ntmps29;go_wp2_with fail;rw[<-hS];clear hS;generalize (w.alloc (.cells #[.slice A1 n c1,.slice A2 m c2,.slice A3 q c3] 25)).alloc (.cells #[.slice none 0 0,.slice none 0 0,.slice none 0 0] 25)=w1 at *;have HZ1:=Lt (S+1<w1.heap.size) ((gl HR1.o));refine (qoW.o w1 HB1.o (by have:=HZ1.o;omega)).mono ?_;rintro e w2 ⟨rfl,Ja⟩;rw[show Uj (g.1,g.2.1,g.2.2)=false from HBB.o];have HB2:=Lh (HB1.o.trans (Ja.mono (by have:=HZ1.o;omega)));have HR2:=Lh ((Ja.block (S+1) HZ1.o).trans HR1.o);clear Ja HB1 HR1 HZ1 qoW;go_wp2_with (refine Zs none rfl ?_);refine Stop.go (Zn rfl 25 rfl rfl rfl (Vk HR2.o rfl rfl rfl rfl) ?_);have Dl:=Lh (Zi _ _ _ _ _ _ HR2.o:(w2.setRow (S+1) [.slice none 0 0,.slice none 0 0,.slice none 0 0].toArray).heap[S+1]? = _);have Db:=Lh (Zj HB2.o (Yh S) [.slice none 0 0,.slice none 0 0,.slice none 0 0].toArray);generalize w2.setRow (S+1) [.slice none 0 0,.slice none 0 0,.slice none 0 0].toArray=wz at *;generalize ha:Act.put _ _ _=z9;simp[Act.put] at ha;subst ha;go_wp2_with fail;refine lk (g:=S+1) rfl rfl rfl Dl.o ?_;exact⟨_,_,_,rfl,fun _ _=>by rw[HC.o];exact nL.zero,by rw[<-HSE.o];exact Db.o⟩
theorem gW(v1 v2 v3:Value)(g:Kc)(w:World)(Ek:g.1.length+g.2.1.length<=4611686018427387904)(h:nL w w.heap.size v1 v2 v3 g) :
  Calls Tryz.prog 29 #[.agg #[v1,v2,v3]] w (qpO g w):=by
 rcases Yn (Uj g) with hg | hg
 ·have hgd:=(Fj g).1 hg;refine (Q_ v1 v2 v3 (g.1.map Wp) (g.2.1.map Wp) g.2.2 w (by rw[gO];exact hgd) (by rw[show (g.1.map Wp).map Jp=g.1 from congrArg Prod.fst (gO g)];exact h.names) (by rw[show (g.2.1.map Wp).map Jp=g.2.1 from congrArg (fun x:Kc=>x.2.1) (gO g)];exact h.terms) h.rules).mono ?_;rintro e w' ⟨u1,u2,u3,rfl,ha,hb⟩;refine⟨u1,u2,u3,rfl,fun w'' hw=>?_,hb⟩;obtain⟨a1,a2,a3⟩:=ha w'' hw;rw[show Py g=Jk g from if_pos hg];exact⟨zdL a1,zdL a2,a3⟩
 ·exact fq v1 v2 v3 g w hg Ek h
def kM(K:Nat)(x:Ke):Prop:=x.2.length<=K/\x.1.size<=32/\∀ a∈x.2,∀ it∈a,it.2.size<=32
def zbX(a:List Vw):Prop:=∀ it∈a,it.2.size<=32
def zaG(k:Nat):PSt->Prop
 |.name done=>done.length<=k/\∀ x∈done,kM k x
 |.colon done nm=>done.length+1<=k/\(∀ x∈done,kM k x)/\nm.size<=32
 |.item done nm alts alt=>done.length+1<=k/\(∀ x∈done,kM k x)/\nm.size<=32/\alts.length+1<=k/\(∀ a∈alts,zbX a)/\zbX alt
theorem kM.up{K L:Nat}{x:Ke}(h:kM K x)(hk:K<=L):kM L x:=⟨Yb h.1 hk,h.2⟩
theorem qrN{k:Nat}{st st':PSt}{t:Kr}(h:Gx st t=some st')(hs:zaG k st)(ht:t.2.1.length<=32):zaG (k+1) st':=by
 have hb:(Jp t.2.1).size<=32:=by rw[rK];exact ht
 cases st with
 |name done =>
  change (if t.1=1 then some (PSt.colon done (Jp t.2.1)) else none)=some st' at h
  split at h
  ·injection h with h;subst h;exact⟨Nat.succ_le_succ hs.1,fun x hx=>(hs.2 x hx).up (Yh k),hb⟩
  ·cases h
 |colon done nm =>
  obtain⟨h1,h2,h3⟩:=hs;change (if t.1=3 then some (PSt.item done nm [] []) else none)=some st' at h
  split at h
  ·injection h with h;subst h;exact⟨by omega,fun x hx=>(h2 x hx).up (Yh k),h3,by simp,fun a ha=>(by cases ha),fun a ha=>(by cases ha)⟩
  ·cases h
 |item done nm alts alt =>
  obtain⟨h1,h2,h3,h4,h5,h6⟩:=hs;have h2':∀ x∈done,kM (k+1) x:=fun x hx=>(h2 x hx).up (Yh k);change (if t.1=1\/t.1=2 then some (PSt.item done nm alts (alt++[(decide (t.1=2),Jp t.2.1)])) else if t.1=4 then some (PSt.item done nm (alts++[alt]) []) else if t.1=5 then some (PSt.name (done++[(nm,alts++[alt])])) else none)=some st' at h
  have h7:∀ a∈alts++[alt],zbX a:=fun a ha=>by
   rcases Qh.1 ha with ha | ha
   ·exact h5 a ha
   ·rw[Qi.1 ha];exact h6
  split at h
  ·injection h with h;subst h;refine⟨by omega,h2',h3,by omega,h5,fun it iI=>?_⟩;rcases Qh.1 iI with iI | iI
   ·exact h6 it iI
   ·rw[Qi.1 iI];exact hb
  ·split at h
   ·injection h with h;subst h;exact⟨by omega,h2',h3,by rw[Qe,Qf];omega,h7,fun it iI=>by cases iI⟩
   ·split at h
    ·injection h with h;subst h;refine⟨by rw[Qe,Qf];omega,fun x hx=>?_⟩;rcases Qh.1 hx with hx | hx
     ·exact h2' x hx
     ·rw[Qi.1 hx];exact⟨by show List.length (alts++[alt])<=_;rw[Qe,Qf];omega,h3,h7⟩
    ·cases h
theorem qwJ(len:Nat):∀(toks:List Kr)(k:Nat)(st:PSt),zaG k st->(∀ t∈toks,t.2.1.length<=32)->(jk len st toks).1.length<=k+toks.length/\∀ x∈(jk len st toks).1,kM (k+toks.length) x
 |[],k,st,hs,_=>by
  cases st with
  |name done =>
   unfold jk;split
   ·exact⟨Yf _,fun x hx=>by cases hx⟩
   ·exact hs
  |colon _ _=>exact⟨Yf _,fun x hx=>by cases hx⟩
  |item _ _ _ _=>exact⟨Yf _,fun x hx=>by cases hx⟩
 |t::r,k,st,hs,ht=>by
  rw[bM];split
  ·exact⟨Yf _,fun x hx=>by cases hx⟩
  ·rename_i st' h;have:=qwJ len r (k+1) st' (qrN h hs (ht t (by simp))) (fun x hx=>ht x (by simp[hx]));rw[show k+1+r.length=k+(t::r).length by rw[Qu];omega] at this;exact this
theorem V_(s:Wd):(Ms s).1.length<=65536/\∀ x∈(Ms s).1,kM 65536 x:=by
 unfold Ms;split
 ·exact⟨Yf _,fun x hx=>by cases hx⟩
 ·obtain⟨h1,h2⟩:=vw s;obtain⟨h3,h4⟩:=qwJ s.length (Rv s).1 0 (.name []) ⟨Ya _,fun x hx=>by cases hx⟩ h2;exact⟨by show List.length (jk _ _ _).1<=_;omega,fun x hx=>(h4 x hx).up (by omega)⟩
theorem qoL(s:Wd):LnS (Ms s).1:=fun x hx=>by
 obtain⟨h1,h2,h3⟩:=(V_ s).2 x hx;exact⟨by unfold maxLen;omega,fun a ha it iI=>by have:=h3 a ha it iI;unfold maxLen;omega⟩
def Nx(s:Wd):Kc×Nat×Nat:=if (Ms s).2.2≠0 then (([],[],[]),(Ms s).2.1,(Ms s).2.2) else (Py (Jn (Ms s).1).1,0,(Jn (Ms s).1).2)
theorem zC{fn:Func}{p u x:Tmp}{r y:Value}{Q:Ending->World->Prop}(h:fn.results=#[.cell p 25,.tmp u,.tmp x]){a:Act}{w:World}{g:Nat}{c0 c1 c2:Value}{fr:Nat×Nat}{t:TypeId}(hd:a.defers=[])
  (hp:a.tmps.getD p undef=.pointer (some ⟨g,0,none⟩)) (hu:a.tmps.getD u undef=r) (hx:a.tmps.getD x undef=y) (hg:w.heap[g]? = some (.cells #[c0,c1,c2] t fr)) (hq:Q (.returned (.tuple #[.agg #[c0,c1,c2],r,y])) w):bodyPost Tryz.prog fn Q .ret a w:=by
 refine Zg (v:=.tuple #[.agg #[c0,c1,c2],r,y]) ?_ hd hq;rw[Mw h,hp,hu,hx];simp[asAddr,Result.andThen,run_loadVar_row w g t 25 #[c0,c1,c2] fr _ hg Tryz.underlying25 rfl (by kernel_rfl)]
def iC(s:Wd)(w:World)(e:Ending)(w':World):Prop:=∃ v1 v2 v3,e=.returned (.tuple #[.agg #[v1,v2,v3],.int .i64 (Nx s).2.1,.int .i64 (Nx s).2.2])/\nL w' w'.heap.size v1 v2 v3 (Nx s).1/\Below w.heap.size w w'
theorem iC.of{s:Wd}{w w':World}{g:Kc}{i n:Nat}{v1 v2 v3:Value}(h:Nx s=(g,i,n))(hg:nL w' w'.heap.size v1 v2 v3 g)(hb:Below w.heap.size w w'):iC s w (.returned (.tuple #[.agg #[v1,v2,v3],.int .i64 i,.int .i64 n])) w':=by
 unfold iC;rw[h];exact⟨_,_,_,rfl,hg,hb⟩
theorem xF(l:List Ke):(Jn l).1.1.length+(Jn l).1.2.1.length<=256:=by
 unfold Jn
 repeat' split
 all_goals first
  |(simp;done)
  |(simp only[Qk];omega)
theorem qjR(s:ByteArray)(w:World)(hs:s.size<=maxLen):Calls Tryz.prog 56 #[.string s] w (iC s.data.toList w):=by
 obtain⟨S,hS⟩:=Xe w.heap.size;have Ag:Below w.heap.size w (w.alloc (.cells #[.slice none 0 0,.slice none 0 0,.slice none 0 0] 25)):=(Xr _ _).alloc (Ya _) _;have HS1:=Lh (Xn w (.cells #[.slice none 0 0,.slice none 0 0,.slice none 0 0] 25));have HZ1:=Lh (Xs w (.cells #[.slice none 0 0,.slice none 0 0,.slice none 0 0] 25));have HB1:=Lh Ag;rw[<-hS] at HS1 HZ1;have HSE:=Lh hS;have iM:=Lh (fun W:World=>qgS s W hs);obtain⟨l,xS,er,hF⟩:∃ l xS er,Ms s.data.toList=(l,xS,er):=⟨_,_,_,rfl⟩;have HF:=Lh hF;have HZ:=Lh (V_ s.data.toList);have HLS:=Lh (qoL s.data.toList);rw[hF] at HZ HLS;unfold Mm at iM;rw[hF] at iM;simp only at HZ HLS iM;clear hF Ag hs;go_enter Tryz.func56,Tryz.ntmps56;go_wp2_with fail;rw[<-hS];clear hS;generalize w.alloc (.cells #[.slice none 0 0,.slice none 0 0,.slice none 0 0] 25)=w1 at *;refine (iM.o w1).mono ?_;rintro e w2 ⟨vl,rfl,Mi,Ja⟩;have HS2:=Lh ((Ja.block S (by rw[HZ1.o];omega)).trans HS1.o);have HB2:=Lh (HB1.o.trans (Ja.mono (by rw[HZ1.o,HSE.o];omega)));have HSL:=Lh Mi;clear Ja Mi HS1 HB1 HZ1;by_cases her:er=0
 ·subst her;have HRF:=Lh (show Nx s.data.toList=(Py (Jn l).1,0,(Jn l).2) by
   unfold Nx
   rw[HF.o,if_neg (by simp)])
  have HRE:=Lh (ll vl l w2 HSL.o HLS.o (by have:=HZ.o.1;omega) (fun x hx=>by have:=(HZ.o.2 x hx).1;omega));obtain⟨A0,c0,rfl,_,_⟩:=HSL.o.form;obtain⟨g,en,hRF⟩:∃ g en,Jn l=(g,en):=⟨_,_,rfl⟩;have iK:=Lh (xF l);unfold Eg at HRE;rw[hRF] at HRE HRF iK;simp only at HRE HRF iK;clear hRF;obtain⟨n0,hn0⟩:=Xe l.length;rw[<-hn0] at HRE |-;clear hn0;go_wp2_with fail;refine HRE.o.mono ?_;rintro e w3 ⟨v1,v2,v3,rfl,a1,a2,a3,hb3⟩;obtain⟨A1,A2,A3,c1,c2,c3,rfl,rfl,rfl⟩:=nL.form (B:=w3.heap.size) ⟨a1,a2,a3⟩;have hb4:Below w3.heap.size w3 (w3.alloc (.cells #[.slice A1 g.1.length c1,.slice A2 g.2.1.length c2,.slice A3 g.2.2.length c3] 25)):=(Xr _ _).alloc (Ya _) _;have HS4:=Lh (((hb3.trans (hb4.mono hb3.size)).block S (gl HS2.o)).trans HS2.o);have HB4:=Lh (HB2.o.trans ((hb3.trans (hb4.mono hb3.size)).mono (by have:=(gl HS2.o);rw[<-HSE.o];omega)));have HG4:=Lh (nL.fut (B':=(w3.alloc (.cells #[.slice A1 g.1.length c1,.slice A2 g.2.1.length c2,.slice A3 g.2.2.length c3] 25)).heap.size) ⟨a1,a2,a3⟩ hb4 (Ya _) hb4.size);have HCN:=Lh (gW (.slice A1 g.1.length c1) (.slice A2 g.2.1.length c2) (.slice A3 g.2.2.length c3) g (w3.alloc (.cells #[.slice A1 g.1.length c1,.slice A2 g.2.1.length c2,.slice A3 g.2.2.length c3] 25)) (by have:=iK.o;omega) HG4.o);obtain⟨n,hn⟩:=Xe g.1.length;obtain⟨m,hm⟩:=Xe g.2.1.length;obtain⟨q,hq⟩:=Xe g.2.2.length;rw[<-hn,<-hm,<-hq] at HCN HS4 HB4 |-;clear a1 a2 a3 hb3 hb4 HG4 hn hm hq iK;go_wp2_with fail;refine HCN.o.mono ?_;generalize w3.alloc (.cells #[.slice A1 n c1,.slice A2 m c2,.slice A3 q c3] 25)=w4 at *;rintro e w5 ⟨u1,u2,u3,rfl,aB,hb5⟩;obtain⟨B1,B2,B3,d1,d2,d3,rfl,rfl,rfl⟩:=(aB w5 fun _ _ _=>rfl).form;have wF:=Lh ((hb5.block S (gl HS4.o)).trans HS4.o);have HB5:=Lh (HB4.o.trans (hb5.mono (by have:=(gl HS4.o);rw[<-HSE.o];omega)));have HG5:=Lh aB;clear aB hb5;generalize (Py g).1.length=n1 at *;generalize (Py g).2.1.length=m1 at *;generalize (Py g).2.2.length=q1 at *;go_wp2_with (refine Zs none rfl ?_);refine Stop.go (Zn rfl 25 rfl rfl rfl (Vk wF.o rfl rfl rfl rfl) ?_);have Dl:=Lh (Zi _ _ _ _ _ _ wF.o:(w5.setRow S [.slice B1 n1 d1,.slice B2 m1 d2,.slice B3 q1 d3].toArray).heap[S]? = _);have Db:=Lh (Zj HB5.o (Yi HSE.o.symm) [.slice B1 n1 d1,.slice B2 m1 d2,.slice B3 q1 d3].toArray);have HGF:=Lh (HG5.o (w5.setRow S [.slice B1 n1 d1,.slice B2 m1 d2,.slice B3 q1 d3].toArray) fun b h1 _=>setRow_other w5 S b _ (fun e=>by have:=(gl HS4.o);omega));generalize w5.setRow S [.slice B1 n1 d1,.slice B2 m1 d2,.slice B3 q1 d3].toArray=wz at *;generalize ha:Act.put _ _ _=z9;simp[Act.put] at ha;subst ha;go_wp2_with fail;refine zC (g:=S) rfl rfl rfl rfl rfl Dl.o ?_;exact iC.of HRF.o HGF.o Db.o
 ·have g0:((er:Int) != 0)=true:=by simp;omega
  have Ju:=Lh (show Nx s.data.toList=(([],[],[]),xS,er) by
   unfold Nx
   rw[HF.o,if_pos her])
  go_wp2_with (refine Zs none rfl ?_);refine Stop.go (Zn rfl 25 rfl rfl rfl (Vk HS2.o rfl rfl rfl rfl) ?_);have Dl:=Lh (Zi _ _ _ _ _ _ HS2.o:(w2.setRow S [.slice none 0 0,.slice none 0 0,.slice none 0 0].toArray).heap[S]? = _);have Db:=Lh (Zj HB2.o (Yi HSE.o.symm) [.slice none 0 0,.slice none 0 0,.slice none 0 0].toArray);generalize w2.setRow S [.slice none 0 0,.slice none 0 0,.slice none 0 0].toArray=wz at *;generalize ha:Act.put _ _ _=z9;simp[Act.put] at ha;subst ha;go_wp2_with fail;refine zC (g:=S) rfl rfl rfl rfl rfl Dl.o ?_;exact iC.of Ju.o nL.zero Db.o
theorem bd(a b:Value)(xs ys:List ByteArray)(w:World)(ha:Je Nk w w.heap.size a xs)(hb:Je Nk w w.heap.size b ys) :
  Calls Tryz.prog 118 #[a,b] w fun e w'=>e=.returned (.bool (decide (xs=ys)))/\Below w.heap.size w w':=by
 obtain⟨A,c,rfl,Nj,Uy⟩:=ha.form;obtain⟨B,d,rfl,jR,jQ⟩:=hb.form;unfold maxLen at Uy jQ;by_cases hl:xs.length=ys.length
 ·have hne:((xs.length:Int) != (ys.length:Int))=false:=by simp;omega
  go_enter Tryz.func118,Tryz.ntmps118;go_wp2;go_loopw [13] (fun v8 wr=>∃ k:Nat,k<=xs.length/\v8=.int .i64 k/\Hid (∀(j:Nat)(h:j<xs.length)(h2:j<ys.length),j<k->xs[j]=ys[j])/\Below w.heap.size w wr) (fun v8 _=>xs.length - (intOf v8).toNat);exact⟨0,by omega,rfl,fun j h h2 hj=>by omega,Xr _ _⟩;obtain⟨k,hk,rfl,hno,hbr⟩:=hrel;by_cases Ji:k<xs.length
  ·have ef:k<ys.length:=by omega
   obtain⟨ab,ao,cs,rfl,_,Lj,Zx,Zm⟩:=(ha.below hbr).get Ji (by decide);obtain⟨rfl,Pr⟩:=Zx;have Vh:=Zm 0 _ rfl;obtain⟨bb,bo,cs,rfl,_,jj,Zx,Jr⟩:=(hb.below hbr).get ef (by decide);obtain⟨rfl,tX⟩:=Zx;have hd0:=Jr 0 _ rfl;clear Zm Jr;simp only[show Nk.size=1 from rfl,Yr,Yp] at Vh hd0;by_cases heq:xs[k]=ys[k]
   ·have hq:(xs[k].toList==ys[k].toList)=true:=by rw[heq];exact beq_self_eq_true _
    have HQ:=Lh heq;clear heq;go_wp2_with fail;refine Text.wt (by kernel_rfl) fun Q' hQ'=>?_;go_wp2;refine⟨by rfl,?_⟩;go_wp2;go_roundw;exact⟨k+1,by omega,by go_num,fun j h h2 hj=>by by_cases e:j=k;(subst e;exact HQ.o);exact hno.o j h h2 (by omega),hbr.drew⟩;simp[intOf];omega
   ·have hq:(xs[k].toList==ys[k].toList)=false:=by rw[<-beq_toListBytes,Gp,Yk];exact fun e=>heq e.symm
    have HQ:=Lh heq;clear heq;go_wp2_with fail;refine Text.wt (by kernel_rfl) fun Q' hQ'=>?_;go_wp2;refine⟨by rfl,?_⟩;go_wp2;go_ret;exact⟨Kx (Zv (by rw[eq_comm,Yk];intro h;subst h;exact HQ.o rfl)),hbr.drew⟩
  ·have HEQ:Hid (xs=ys):=List.ext_getElem hl fun j h h2=>hno.o j h h2 (by omega);go_wp2;go_ret;exact⟨Kx (Zv (by rw[eq_comm,Yj];exact HEQ.o)),hbr⟩
 ·have hne:((xs.length:Int) != (ys.length:Int))=true:=by simp;omega
  go_enter Tryz.func118,Tryz.ntmps118;go_wp2;go_ret;exact⟨Kx (Zv (by rw[eq_comm,Yk];intro h;subst h;exact hl rfl)),Xr _ _⟩
theorem qnG(a b:Value)(xs ys:List Jo)(w:World)(ha:Je Vv w w.heap.size a xs)(hb:Je Vv w w.heap.size b ys) :
  Calls Tryz.prog 119 #[a,b,.func (.func 120) #[] #[]] w fun e w'=>e=.returned (.bool (decide (xs=ys)))/\Below w.heap.size w w':=by
 obtain⟨A,c,rfl,Nj,Uy⟩:=ha.form;obtain⟨B,d,rfl,jR,jQ⟩:=hb.form;unfold maxLen at Uy jQ;have HA:=Lh ha;have HB:=Lh hb;clear ha hb;by_cases hl:xs.length=ys.length
 ·have hne:((xs.length:Int) != (ys.length:Int))=false:=by simp;omega
  obtain⟨n,hn⟩:=Xe xs.length;rw[<-hl] at HB jR |-;rw[<-hn] at HA HB Nj jR |-;have HN:=Lh hn;have HL:=Lh hl;clear hn hl hne;go_enter Tryz.func119,Tryz.ntmps119;go_wp2_with fail;have HE0:=Lt (∀(j:Nat)(h:j<xs.length)(h2:j<ys.length),j<0->xs[j]=ys[j]) (fun j h h2 hj=>by omega);have HB0:=Lh (Xr w.heap.size w);go_loopw [17] (fun v8 wr=>∃ k:Nat,k<=n/\v8=.int .i64 k/\Hid (∀(j:Nat)(h:j<xs.length)(h2:j<ys.length),j<k->xs[j]=ys[j])/\Hid (Below w.heap.size w wr)) (fun v8 _=>n - (intOf v8).toNat);exact⟨0,by omega,rfl,HE0.o,HB0.o⟩;clear HE0 HB0;obtain⟨k,hk,rfl,hno,hbr⟩:=hrel;by_cases Ji:k<n
  ·have hlx:k<xs.length:=by rw[<-HN.o];exact Ji
   have hly:k<ys.length:=by rw[<-HL.o];exact hlx
   obtain⟨ab,ao,cs,rfl,_,Lj,Zx,Zm⟩:=(HA.o.below hbr.o).get hlx (by decide);obtain⟨u1,rfl,hu1,Ib,Sc⟩:=Kq Zx;obtain⟨bb,bo,cs,rfl,_,jj,Mz,Jr⟩:=(HB.o.below hbr.o).get hly (by decide);obtain⟨u2,rfl,qJ,hz3,hz4⟩:=Kq Mz;obtain⟨A1,e1,rfl,av,qN⟩:=hu1.form;obtain⟨A2,e2,rfl,he3,he4⟩:=qJ.form;have a0:=Zm 0 _ rfl;have a1:=Zm 1 _ rfl;have b0:=Jr 0 _ rfl;have b1:=Jr 1 _ rfl;simp only[show Vv.size=2 from rfl,Yp,<-Yx] at a0 a1 b0 b1;clear Zm Jr Zx Mz;have iJ:=Lh hu1;have dP:=Lh qJ;have Ot:=Lh (show ∀(j:Nat)(h:j<xs.length)(h2:j<ys.length),xs[k]=ys[k]->j<k+1->xs[j]=ys[j] from fun j h h2 e hj=>by
    by_cases e2:j=k
    ·subst e2;exact e
    ·exact hno.o j h h2 (by omega))
   have HNE:=Lt (xs[k]≠ys[k]->xs≠ys) (fun h e=>h (by subst e;rfl));clear hu1 qJ;generalize xs[k]=x at *;generalize ys[k]=y at *;clear hlx hly;obtain⟨x1,x2⟩:=x;obtain⟨y1,y2⟩:=y;simp only at a0 a1 b0 b1 iJ dP av he3;generalize x2.length=n1 at *;generalize y2.length=n2 at *;have Ja:Below wr.heap.size wr ((wr.alloc (.cells #[.int .i64 x1,.slice A1 n1 e1] 63)).alloc (.cells #[.int .i64 y1,.slice A2 n2 e2] 63)):=((Xr _ _).alloc (Ya _) _).alloc (by rw[Xs];omega) _;have HB2:=Lh (hbr.o.trans (Ja.mono hbr.o.size));have HLK:=Lh (nu (.slice A1 n1 e1) (.slice A2 n2 e2) x1 y1 x2 y2 ((wr.alloc (.cells #[.int .i64 x1,.slice A1 n1 e1] 63)).alloc (.cells #[.int .i64 y1,.slice A2 n2 e2] 63)) (iJ.o.fut Ja hbr.o.size (Yb hbr.o.size Ja.size)) (dP.o.fut Ja hbr.o.size (Yb hbr.o.size Ja.size)));clear Ja;have hab':ab<wr.heap.size:=Yd Lj hbr.o.size;have hbb':bb<wr.heap.size:=Yd jj hbr.o.size;go_wp2_with fail;clear a0 a1 b0 b1;generalize (wr.alloc (.cells #[.int .i64 x1,.slice A1 n1 e1] 63)).alloc (.cells #[.int .i64 y1,.slice A2 n2 e2] 63)=w2 at *;refine HLK.o.mono ?_;rintro e w3 ⟨rfl,hb3⟩;have HB3:=Lh (HB2.o.trans (hb3.mono HB2.o.size));by_cases heq:((x1,x2):Jo)=(y1,y2)
   ·rw[Yv heq];have HNX:=Lh (fun(j:Nat)(h:j<xs.length)(h2:j<ys.length)(hj:j<k+1)=>Ot.o j h h2 heq hj);clear heq hb3;go_wp2_with fail;go_roundw;exact⟨k+1,by omega,by go_num,HNX.o,HB3.o⟩;simp[intOf];omega
   ·rw[Yw heq];have HNX:=Lh (HNE.o heq);clear heq hb3;go_wp2_with fail;go_ret;exact⟨Kx (Zv (Yw HNX.o).symm),HB3.o⟩
  ·obtain rfl:k=n:=by omega
   have HEQ:=Lt (xs=ys) (List.ext_getElem HL.o fun j h h2=>hno.o j h h2 (by rw[HN.o];exact h));go_wp2_with fail;go_ret;exact⟨Kx (Zv (Yv HEQ.o).symm),hbr.o⟩
 ·have hne:((xs.length:Int) != (ys.length:Int))=true:=by simp;omega
  have HNE:=Lt (¬ xs=ys) (fun e=>hl (by rw[e]));go_enter Tryz.func119,Tryz.ntmps119;go_wp2_with fail;go_ret;exact⟨Kx (Zv (Yw HNE.o).symm),Xr _ _⟩
theorem qtP{g h:Kc}(h1:g.1=h.1)(h2:g.2.1=h.2.1):decide (g=h)=decide (g.2.2=h.2.2):=by
 rw[decide_eq_decide];constructor
 ·intro e;rw[e]
 ·intro e;obtain⟨a,b,c⟩:=g;obtain⟨a',b',c'⟩:=h;simp only at h1 h2 e;rw[h1,h2,e]
theorem jV(v1 v2 v3 u1 u2 u3:Value)(g h:Kc)(w:World)(hg:nL w w.heap.size v1 v2 v3 g)(hh:nL w w.heap.size u1 u2 u3 h) :
  Calls Tryz.prog 62 #[.agg #[v1,v2,v3],.agg #[u1,u2,u3]] w fun e w'=>e=.returned (.bool (decide (g=h)))/\Below w.heap.size w w':=by
 obtain⟨A1,A2,A3,c1,c2,c3,rfl,rfl,rfl⟩:=hg.form;obtain⟨B1,B2,B3,d1,d2,d3,rfl,rfl,rfl⟩:=hh.form;obtain⟨S,hS⟩:=Xe w.heap.size;have HE1:=Lh (fun(W:World)(hb:Below w.heap.size w W)=>bd _ _ g.1 h.1 W (hg.names.fut hb (Ya _) hb.size) (hh.names.fut hb (Ya _) hb.size));have b_:=Lh (fun(W:World)(hb:Below w.heap.size w W)=>bd _ _ g.2.1 h.2.1 W (hg.terms.fut hb (Ya _) hb.size) (hh.terms.fut hb (Ya _) hb.size));have HE3:=Lh (fun(W:World)(hb:Below w.heap.size w W)=>qnG _ _ g.2.2 h.2.2 W (hg.rules.fut hb (Ya _) hb.size) (hh.rules.fut hb (Ya _) hb.size));have ztF:=Lt (g.1≠h.1->decide (g=h)=false) (fun e=>Yw fun e2=>e (by rw[e2]));have ztE:=Lt (g.2.1≠h.2.1->decide (g=h)=false) (fun e=>Yw fun e2=>e (by rw[e2]));have HEQ:=Lh (fun(a:g.1=h.1)(b:g.2.1=h.2.1)=>qtP a b);clear hg hh;generalize g.1.length=n at *;generalize g.2.1.length=m at *;generalize g.2.2.length=q at *;generalize h.1.length=n' at *;generalize h.2.1.length=m' at *;generalize h.2.2.length=q' at *;have HB1:=Lt (Below w.heap.size w ((w.alloc (.cells #[.slice A1 n c1,.slice A2 m c2,.slice A3 q c3] 25)).alloc (.cells #[.slice B1 n' d1,.slice B2 m' d2,.slice B3 q' d3] 25))) (((Xr _ _).alloc (Ya _) _).alloc (by rw[Xs];omega) _);have HG1:=Lh (Go.heap_alloc2_old w (.cells #[.slice A1 n c1,.slice A2 m c2,.slice A3 q c3] 25) (.cells #[.slice B1 n' d1,.slice B2 m' d2,.slice B3 q' d3] 25));have HH1:=Lh (Go.heap_alloc2_new w (.cells #[.slice A1 n c1,.slice A2 m c2,.slice A3 q c3] 25) (.cells #[.slice B1 n' d1,.slice B2 m' d2,.slice B3 q' d3] 25));rw[<-hS] at HG1 HH1;by_cases e1:g.1=h.1
 ·by_cases e2:g.2.1=h.2.1
  ·have HR:=Lh (HEQ.o e1 e2);simp only[Yv e1] at HE1;simp only[Yv e2] at b_;clear e1 e2;go_enter Tryz.func62,Tryz.ntmps62;go_wp2_with fail;rw[<-hS];clear hS;generalize (w.alloc (.cells #[.slice A1 n c1,.slice A2 m c2,.slice A3 q c3] 25)).alloc (.cells #[.slice B1 n' d1,.slice B2 m' d2,.slice B3 q' d3] 25)=w1 at *;refine (HE1.o w1 HB1.o).mono ?_;rintro e w2 ⟨rfl,Ja⟩;have HB2:=Lh (HB1.o.trans (Ja.mono HB1.o.size));have HG2:=Lh ((Ja.block S (gl HG1.o)).trans HG1.o);have HH2:=Lh ((Ja.block (S+1) (gl HH1.o)).trans HH1.o);obtain⟨a0,a1,a2⟩:=Jb HG2.o;obtain⟨b0,b1,b2⟩:=Jb HH2.o;go_wp2_with fail;refine (b_.o w2 HB2.o).mono ?_;rintro e w3 ⟨rfl,hb3⟩;have HB3:=Lh (HB2.o.trans (hb3.mono HB2.o.size));have iD:=Lh ((hb3.block S (gl HG2.o)).trans HG2.o);have HH3:=Lh ((hb3.block (S+1) (gl HH2.o)).trans HH2.o);obtain⟨a0,a1,a2⟩:=Jb iD.o;obtain⟨b0,b1,b2⟩:=Jb HH3.o;go_wp2_with fail;refine (HE3.o w3 HB3.o).mono ?_;rintro e w4 ⟨rfl,hb4⟩;have HB4:=Lh (HB3.o.trans (hb4.mono HB3.o.size));go_wp2_with fail;go_ret;exact⟨Kx (Zv HR.o.symm),HB4.o⟩
  ·have HR:=Lh (ztE.o e2);simp only[Yv e1] at HE1;simp only[Yw e2] at b_;clear e1 e2;go_enter Tryz.func62,Tryz.ntmps62;go_wp2_with fail;rw[<-hS];clear hS;generalize (w.alloc (.cells #[.slice A1 n c1,.slice A2 m c2,.slice A3 q c3] 25)).alloc (.cells #[.slice B1 n' d1,.slice B2 m' d2,.slice B3 q' d3] 25)=w1 at *;refine (HE1.o w1 HB1.o).mono ?_;rintro e w2 ⟨rfl,Ja⟩;have HB2:=Lh (HB1.o.trans (Ja.mono HB1.o.size));have HG2:=Lh ((Ja.block S (gl HG1.o)).trans HG1.o);have HH2:=Lh ((Ja.block (S+1) (gl HH1.o)).trans HH1.o);obtain⟨a0,a1,a2⟩:=Jb HG2.o;obtain⟨b0,b1,b2⟩:=Jb HH2.o;go_wp2_with fail;refine (b_.o w2 HB2.o).mono ?_;rintro e w3 ⟨rfl,hb3⟩;have HB3:=Lh (HB2.o.trans (hb3.mono HB2.o.size));have iD:=Lh ((hb3.block S (gl HG2.o)).trans HG2.o);have HH3:=Lh ((hb3.block (S+1) (gl HH2.o)).trans HH2.o);obtain⟨a0,a1,a2⟩:=Jb iD.o;obtain⟨b0,b1,b2⟩:=Jb HH3.o;go_wp2_with fail;go_ret;exact⟨Kx (Zv HR.o.symm),HB3.o⟩
 ·have HR:=Lh (ztF.o e1);simp only[Yw e1] at HE1;clear e1;go_enter Tryz.func62,Tryz.ntmps62;go_wp2_with fail;rw[<-hS];clear hS;generalize (w.alloc (.cells #[.slice A1 n c1,.slice A2 m c2,.slice A3 q c3] 25)).alloc (.cells #[.slice B1 n' d1,.slice B2 m' d2,.slice B3 q' d3] 25)=w1 at *;refine (HE1.o w1 HB1.o).mono ?_;rintro e w2 ⟨rfl,Ja⟩;have HB2:=Lh (HB1.o.trans (Ja.mono HB1.o.size));have HG2:=Lh ((Ja.block S (gl HG1.o)).trans HG1.o);have HH2:=Lh ((Ja.block (S+1) (gl HH1.o)).trans HH1.o);obtain⟨a0,a1,a2⟩:=Jb HG2.o;obtain⟨b0,b1,b2⟩:=Jb HH2.o;go_wp2_with fail;go_ret;exact⟨Kx (Zv HR.o.symm),HB2.o⟩
theorem xt(F:FuncId)(cap:Array Value)(p:Int×List (Int×Int)->Bool)(v:Value)(xs:List (Int×List (Int×Int)))(w:World)(hv:Je Js w w.heap.size v xs)
  (hF:∀(args:Array Value)(w:World),(callFunc F args).run Tryz.prog w=.ok (.enter F args) w)
  (hp:∀(cs:List Value)(x:Int×List (Int×Int))(w1:World),x∈xs->Below w.heap.size w w1->(Js).rep w1 w.heap.size cs x->Calls Tryz.prog F (#[.agg cs.toArray]++cap) w1 fun e w2=>e=.returned (.bool (p x))/\Below w1.heap.size w1 w2) :
  Calls Tryz.prog 168 #[v,.func (.func F) #[] cap] w fun e w'=>e=.returned (.int .i64 (idxOf p xs))/\Below w.heap.size w w':=by
 have HP:=Lh hp;clear hp;obtain⟨A,c,rfl,Nj,Uy⟩:=hv.form;unfold maxLen at Uy;go_enter Tryz.func168,Tryz.ntmps168;go_wp2_with fail;go_loopw [8] (fun v8 wr=>∃ k:Nat,k<=xs.length/\v8=.int .i64 k/\Hid (∀(j:Nat)(h:j<xs.length),j<k->p xs[j]=false)/\Below w.heap.size w wr) (fun v8 _=>xs.length - (intOf v8).toNat);exact⟨0,by omega,rfl,fun j h hj=>by omega,Xr _ _⟩;obtain⟨k,hk,rfl,hno,hbr⟩:=hrel;by_cases Ji:k<xs.length
 ·obtain⟨ab,ao,cs,rfl,_,Lj,Zx,Zm⟩:=(hv.below hbr).get Ji (by decide);obtain⟨u0,u1,rfl⟩:∃ u0 u1,cs=[u0,u1]:=by
   match cs,(Js).len Zx with
   |[u0,u1],_=>exact⟨u0,u1,rfl⟩
  have Vh:=Zm 0 _ rfl;have gN:=Zm 1 _ rfl;have Zx:=Lh Zx;clear Zm;simp only[show (Js).size=2 from rfl,Yp,<-Yx] at Vh gN;rcases Yn (p xs[k]) with am | am
  ·have HB:=Lh am;have Mg:=Lh (Lx Ji hno.o am);clear am;go_wp2_with fail;refine (HP.o [u0,u1] xs[k] wr (Qg Ji) hbr Zx.o).mono ?_;rintro e w1 ⟨rfl,hb1⟩;rw[HB.o];go_wp2;go_ret;exact⟨Kx (Gu Mg.o.symm),hbr.trans (hb1.mono hbr.size)⟩
  ·have HB:=Lh am;clear am;go_wp2_with fail;refine (HP.o [u0,u1] xs[k] wr (Qg Ji) hbr Zx.o).mono ?_;rintro e w1 ⟨rfl,hb1⟩;rw[HB.o];go_wp2;go_roundw;exact⟨k+1,by omega,by go_num,fun j h hj=>by by_cases e:j=k;(subst e;exact HB.o);exact hno.o j h (by omega),hbr.trans (hb1.mono hbr.size)⟩;simp[intOf];omega
 ·have Mg:=Lh (Bv fun j h=>hno.o j h (by omega));go_wp2;go_ret;exact⟨Kx (Gu Mg.o.symm),hbr⟩
theorem zt(F:FuncId)(cap:Array Value)(p:Int×List (Int×Int)->Bool)(v:Value)(xs:List (Int×List (Int×Int)))(w:World)(hv:Je Js w w.heap.size v xs)
  (hF:∀(args:Array Value)(w:World),(callFunc F args).run Tryz.prog w=.ok (.enter F args) w)
  (hp:∀(cs:List Value)(x:Int×List (Int×Int))(w1:World),x∈xs->Below w.heap.size w w1->(Js).rep w1 w.heap.size cs x->Calls Tryz.prog F (#[.agg cs.toArray]++cap) w1 fun e w2=>e=.returned (.bool (p x))/\Below w1.heap.size w1 w2) :
  Calls Tryz.prog 105 #[v,.func (.func F) #[] cap] w fun e w'=>e=.returned (.bool (xs.any p))/\Below w.heap.size w w':=by
 have HC:=Lh (xt F cap p v xs w hv hF hp);clear hp;rcases mJ p xs with ⟨h1,h2⟩ | ⟨h1,h2⟩
 all_goals
  have H2:=Lh h2;clear h2;go_enter Tryz.func105,Tryz.ntmps105;go_wp2_with fail;refine HC.o.mono ?_;rintro e w1 ⟨rfl,hb1⟩;go_wp2;go_ret;exact⟨Kx (Zv (by first | exact H2.o.symm | (rw[H2.o];simp;done) | (rw[H2.o];simp;omega))),hb1⟩
structure ii(g:Kc)(k:Nat):Prop where
 b:Uj g=true
 k1:1<=k
 k4:k<=4
 few:g.2.1.length<=3
 made:∀ a,0<=a->a<(g.1.length:Int)->vX g.2.2 a/\E_ g.2.2 a
theorem qI{g:Kc}{k:Int}(h:¬ Cr k g)(hm:g.2.1.length<=3):∃ kk:Nat,k=(kk:Int)/\ii g kk:=by
 unfold Cr at h;have h1:¬ k<1:=fun e=>h (.inl e);have h2:¬ 4<k:=fun e=>h (.inr (.inl e));have h3:Kb g=0:=by
  rcases Decidable.em (Kb g=0) with e | e
  ·exact e
  ·exact absurd (.inr (.inr e)) h
 have hb:Uj g=true:=by
  unfold Kb at h3;split at h3
  ·assumption
  ·cases h3
 have hw:wellE g.1.length g.2.1.length g.2.2=0:=by
  unfold Kb at h3
  rwa [if_pos hb] at h3
 exact⟨k.toNat,by omega,hb,by omega,by omega,hm,qiN (Wu hb).well hw⟩
section
variable {g:Kc} {k:Nat} (h:ii g k)
include h
theorem ii.well:Rn g.2.2 g.1.length:=(Wu h.b).well
theorem ii.wellT:ro g.2.2 g.2.1.length:=fun a r hr s hs=>(((Wu h.b).fit (a,r) hr).2.2.2 s hs).2
theorem ii.fewR:zbV g.2.2:=fun a r hr s hs=>by
 have:=h.wellT a r hr s hs;have:=h.few;omega
theorem ii.n0:0<g.1.length:=(Wu h.b).n1
theorem ii.sets{o:Option Zw}(ho:Lf k g o):∃ s,o=some s/\vY g.2.2 g.1.length k s:=by
 have yo:(k:Int)<=4:=by have:=h.k4;omega
 obtain⟨o1,h1,h2⟩:=ho;obtain⟨s,rfl,Ft,eX⟩:=h1.few yo h.well h.fewR;obtain⟨o2,h3,h4⟩:=h2;obtain⟨f,rfl,hf1,hf2⟩:=h3.few yo h.well h.fewR Ft eX;obtain⟨out,It⟩:=vP yo Ft hf1 g.2.2 (fun r hr=>by
  have hw:=h.well r.1 r.2 hr
  exact⟨⟨hw.1,by rw[hf2];exact hw.2.1⟩,fun x hx=>⟨h.fewR r.1 r.2 hr x hx,by rw[eX];exact hw.2.2 x hx⟩⟩)
 exact⟨out,h4.trans It,zdT h.n0 h.well h1 h3 It⟩
end
noncomputable def ahD(rs:Zu)(k:Nat)(w:Wd)(i:Nat):Bool:=@decide (∃ r,rs[i]? = some r/\je rs k r w) (Classical.propDecidable _)
theorem fy(rs:Zu)(k:Nat)(w:Wd):zjH rs k (ahD rs k) w:=fun i r hr=>by
 unfold ahD;rw[@decide_eq_true_iff _ (Classical.propDecidable _)];constructor
 ·rintro⟨r',xQ,h⟩;rw[hr] at xQ;injection xQ with e;subst e;exact h
 ·exact fun h=>⟨r,hr,h⟩
theorem pm{g:Kc}(h:Uj g=true):∀ r∈g.2.2,0<=r.1/\r.1<(g.1.length:Int)/\∀ s∈r.2,s<(g.1.length:Int)/\-256<=s:=fun r hr=>by
 obtain⟨f1,f2,f3,f4⟩:=(Wu h).fit r hr;have:=(Wu h).nm;exact⟨f1,f2,fun s hs=>⟨(f4 s hs).1,by have:=(f4 s hs).2;omega⟩⟩
def zuO{α:Type}(E:fJ α)(w:World)(B:Nat):List (List Value)->List α->Prop
 |[],[]=>True
 |c::cs,x::xs=>E.rep w B c x/\zuO E w B cs xs
 |_,_=>False
def gA:Kc:=([⟨#[83]⟩],[⟨#[97]⟩],[(0,[]),(0,[-1,0])])
def gAr:Zu:=[(0,[]),(0,[-1,0])]
theorem s1:Uw [([]:Wd)]=[[]]:=Gz (by simp[qC]) (by simp)
theorem s2:Uw [([0]:Wd)]=[[0]]:=Gz (by simp[qC]) (by simp)
theorem s3:Uw [([]:Wd),[0]]=[[],[0]]:=Gz (by simp[qC]) (by simp)
theorem s4:Uw [([]:Wd),[0],[]]=[[],[0]]:=Gz (by simp[qC]) (by
 intro x
 simp only[List.mem_cons,List.not_mem_nil,or_false]
 constructor
 ·rintro (h | h | h) <;> simp[h]
 ·rintro (h | h) <;> simp[h])
theorem s5:Uw [([]:Wd),[0],[0]]=[[],[0]]:=Gz (by simp[qC]) (by simp)
theorem s6:Uw [([0]:Wd),[0]]=[[0]]:=Gz (by simp[qC]) (by simp)
theorem s7:Uw [([]:Wd),[]]=[[]]:=Gz (by simp[qC]) (by simp)
theorem qfP:Mj 1 gAr [[]]=some ([[[],[0]]],true):=by
 simp[Mj,Gc,Ew,lZ,Nd,Ru,Ea,Tq,Km,tb,gAr,s1,s2,s3]
theorem qfO:Mj 1 gAr [[[],[0]]]=some ([[[],[0]]],false):=by
 simp[Mj,Gc,Ew,lZ,Nd,Ru,Ea,Tq,Km,tb,gAr,s2,s4,s5,s6]
theorem qmY:Fx 1 gAr 1 (some [[[],[0]]]):=.more qfP (.done qfO)
theorem qtR:Rj [[[],[0]]] 1 gAr [[[]]]=some ([[[]]],false):=by
 simp[Rj,Vy,Vs,Vq,Kg,lZ,Nd,Ru,Ea,Tq,Km,gAr,s1,s3,s7]
theorem qzV:Dt [[[],[0]]] 1 gAr 1 (some [[[]]]):=.done qtR
theorem qnB:Mk [[[],[0]]] [[[]]] 1 gAr=some [[[]],[[0]]]:=by
 simp[Mk,Kg,lZ,Nd,Ru,Ea,Tq,tb,gAr,s1,s2,s6]
theorem qmZ:Mr gAr 1 [[[]],[[0]]]=[]:=by kernel_rfl
theorem qtQ:Ve 0 gAr [[[]],[[0]]]=[(0,[],0),(0,[0],1)]:=by kernel_rfl
def Aj:fJ Ud:=Ca Wo (Ca eW Wo)
abbrev Tj(x:Ud):List Value:=[.int .i64 x.1,wv x.2.1,.int .i64 x.2.2]
abbrev qrT(x:Ud):Value:=.agg #[.int .i64 x.1,wv x.2.1,.int .i64 x.2.2]
theorem mT{w:World}{B:Nat}{cs:List Value}{x:Ud}(h:Aj.rep w B cs x):cs=Tj x/\(-9223372036854775808<=x.1/\x.1<=9223372036854775807)/\x.2.1.length<=maxLen/\(-9223372036854775808<=x.2.2/\x.2.2<=9223372036854775807):=by
 obtain⟨c1,c2,rfl,⟨rfl,h1,h2⟩,c3,c4,rfl,h3,⟨rfl,h5,h6⟩⟩:=h;obtain⟨rfl,h4⟩:=qQ h3;exact⟨rfl,⟨h1,h2⟩,h4,h5,h6⟩
theorem qtT{w:World}{B:Nat}{x:Ud}(h1:-9223372036854775808<=x.1)(h2:x.1<=9223372036854775807)(h3:x.2.1.length<=maxLen)(h4:-9223372036854775808<=x.2.2)(h5:x.2.2<=9223372036854775807):Aj.rep w B (Tj x) x :=
 ⟨_,_,rfl,⟨rfl,h1,h2⟩,_,_,rfl,qwK h3,⟨rfl,h4,h5⟩⟩
theorem Je.rowAt{w:World}{B:Nat}{A:Option Addr}{n c:Nat}{xs:List Ud}(h:Je Aj w B (.slice A n c) xs){k:Nat}(hk:k<xs.length):∃ b off,A=some ⟨b,off,none⟩/\n<=c/\b<B /\
  w.cell? ⟨b,off+k*3,none⟩=some (.int .i64 xs[k].1)/\w.cell? ⟨b,off+k*3+1,none⟩=some (wv xs[k].2.1)/\w.cell? ⟨b,off+k*3+2,none⟩=some (.int .i64 xs[k].2.2)/\Aj.rep w B (Tj xs[k]) xs[k]:=by
 obtain⟨b,off,cs,e,h1,h2,h3,h4⟩:=h.get hk (by decide);have hr:=h3;obtain⟨rfl,_⟩:=mT h3;have a0:=h4 0 _ rfl;have a1:=h4 1 _ rfl;have a2:=h4 2 _ rfl;simp only[show Aj.size=3 from rfl,Yp,<-Yx] at a0 a1 a2;exact⟨b,off,e,h1,h2,a0,a1,a2,hr⟩
def gF(x y:Ud):Int:=if x.1=y.1 then Lib.compareBytes x.2.1 y.2.1 else Lib.compareInt x.1 y.1
theorem gU:∀ a b:Wd,Lib.compareBytes a b<0↔a<b
 |[],[]=>by simp[Lib.compareBytes]
 |[],b::lb=>by simp[Lib.compareBytes]
 |a::la,[]=>by simp[Lib.compareBytes]
 |a::la,b::lb=>by
  rw[List.cons_lt_cons_iff];unfold Lib.compareBytes;by_cases h:a<b
  ·simp[h]
  ·rw[if_neg h];by_cases h2:b<a
   ·rw[if_pos h2];have hne:a≠b:=fun e=>by subst e;exact h h2
    simp[h,hne]
   ·rw[if_neg h2];have e:a=b:=UInt8.le_antisymm (UInt8.not_lt.1 h2) (UInt8.not_lt.1 h);subst e;rw[gU la lb];simp[UInt8.lt_irrefl]
theorem t_(x y:Ud):gF x y<0↔Md x y:=by
 unfold gF Md;split
 ·rename_i h;rw[gU];constructor
  ·exact fun h2=>.inr ⟨h,h2⟩
  ·rintro (h2 | ⟨_,h2⟩)
   ·omega
   ·exact h2
 ·rename_i h;unfold Lib.compareInt;split
  ·rename_i h1;simp[h1]
  ·rename_i h1;split <;> omega
theorem zJ(x y:Ud)(w:World):Calls Tryz.prog 42 #[qrT x,qrT y] w fun e w'=>e=.returned (.int .i64 (gF x y))/\Below w.heap.size w w'/\w.drawn<=w'.drawn:=by
 obtain⟨a,s,i⟩:=x;obtain⟨b,t,j⟩:=y;by_cases h:a=b
 ·have hq:(a==b)=true:=by simp[h]
  have HO:=Lh (show gF (a,s,i) (b,t,j)=Lib.compareBytes s t by unfold gF;rw[if_pos h]);clear h;go_enter Tryz.func42,Tryz.ntmps42;go_wp2_with fail;refine (Tryz.strings_Compare ⟨s.toArray⟩ ⟨t.toArray⟩ _).mono ?_;rintro e w1 ⟨rfl,rfl⟩;go_wp2_with fail;go_ret;exact⟨Kx (Gu HO.o.symm),by go_grown,Ya _⟩
 ·have hq:(a==b)=false:=by simp[h]
  have HO:=Lh (show gF (a,s,i) (b,t,j)=Lib.compareInt a b by unfold gF;rw[if_neg h]);clear h;go_enter Tryz.func42,Tryz.ntmps42;go_wp2_with fail;refine (Tryz.cmp_Compare_int a b _).mono ?_;rintro e w1 ⟨rfl,rfl⟩;go_wp2_with fail;go_ret;exact⟨Kx (Gu HO.o.symm),by go_grown,Ya _⟩
def eN(n:Int)(s:Wd):Bool:=s.all fun c=>decide ((c.toNat:Int)<n)
def Ou(n k:Int)(s:Wd):Bool:=eN n s&&decide ((s.length:Int)<=k)
theorem ut{n:Int}{s:Wd}{i:Nat}(h:i<s.length):eN n (s.take (i+1))=(eN n (s.take i)&&decide ((s[i].toNat:Int)<n)):=by
 unfold eN;rw[Qc h,List.all_append];simp
theorem qcW{n:Int}{s:Wd}{i:Nat}(h:i<s.length)(hb:¬ ((s[i].toNat:Int)<n)):eN n s=false:=by
 unfold eN;rw[List.all_eq_false];exact⟨s[i],Qg h,by simpa using hb⟩
theorem wY(s:Wd)(n k:Int)(w:World)(hs:s.length<=maxLen):Calls Tryz.prog 108 #[wv s,.int .i64 n,.int .i64 k] w fun e w'=>e=.returned (.bool (Ou n k s))/\Below w.heap.size w w':=by
 obtain⟨W,cw,hcv,hbW,hsW,hrd⟩:=qnM (P:=Tryz.prog) w 9 114 5 ⟨s.toArray⟩ Tryz.underlying9 Tryz.underlying114 Tryz.underlying5;rw[St] at hcv;have ru:=Lt (Rd W (w.heap.size+1) (some ⟨w.heap.size,0,none⟩) (Rl s)) (hrd);have HBW:=Lh hbW;have hz:=St s;obtain⟨n0,hn0⟩:=Xe s.length;rw[<-hn0] at hcv hz hs;unfold maxLen at hs;have HN:=Lh hn0;have HLK:=Lh (show Ou n k s=(eN n s&&decide ((n0:Int)<=k)) by unfold Ou;rw[hn0]);clear hrd hbW hsW hn0;go_enter Tryz.func108,Tryz.ntmps108;go_wp2_with fail;go_loopg [12] n0 (fun left v12 wr=>∃ i:Nat,i<=n0/\n0 - i<=left/\v12=.int .i64 i/\wr=W/\Hid (eN n (s.take i)=true));exact⟨0,by omega,by omega,rfl,rfl,rfl⟩;obtain⟨i,hi,Dp,rfl,rfl,HO⟩:=hrel;by_cases Li:i<n0
 ·have Wt:i<s.length:=by rw[<-HN.o];exact Li
  obtain⟨bb,bo,pg,jj,hcb⟩:=ru.o.byte Wt;injection pg with pg;injection pg with e1 e2;subst e1 e2;rw[Yq] at hcb;have HT:=Lh (ut (n:=n) Wt);have Rw:=Lh (qcW (n:=n) Wt);have Pr:=s[i].toNat_lt;obtain⟨x,hx,gM,hx3⟩:∃ x:Int,((s[i].toNat:Nat):Int)=x/\0<=x/\x<256:=⟨_,rfl,by omega,by omega⟩;rw[hx] at hcb HT Rw;clear hx Pr Wt;by_cases hxn:x<n
  ·have hd:decide (n<=x)=false:=by simpa using hxn
   go_wp2_with fail;go_roundg (gk - 1);exact⟨i+1,by omega,by omega,by go_num,rfl,by show _=_;rw[HT.o,HO.o];simpa using hxn⟩;omega
  ·have hd:decide (n<=x)=true:=by simpa using hxn
   go_wp2_with fail;go_ret;exact⟨Kx (Zv (by rw[HLK.o,Rw.o hxn];rfl)),HBW.o⟩
 ·have HF:=Lh (show eN n s=true by
   have:=HO.o
   rwa [Qd (by rw[<-HN.o];omega)] at this)
  go_wp2_with fail;go_ret;exact⟨Kx (Zv (by rw[HLK.o,HF.o];simp)),HBW.o⟩
theorem zxU(a b:Ud):(decide (a.1=b.1)&&decide (a.2.1=b.2.1)&&decide (a.2.2=b.2.2))=decide (a=b):=by
 obtain⟨a1,a2,a3⟩:=a;obtain⟨b1,b2,b3⟩:=b;simp[Bool.and_assoc]
theorem qfX(A B:Option Addr)(ca cb:Nat)(xs ys:List Ud)(w:World)(ha:Je Aj w w.heap.size (.slice A xs.length ca) xs)(hb:Je Aj w w.heap.size (.slice B ys.length cb) ys) :
  Calls Tryz.prog 121 #[.slice A xs.length ca,.slice B ys.length cb] w fun e w'=>e=.returned (.bool (decide (xs=ys)))/\Below w.heap.size w w':=by
 have HA:=Lh ha;have HB:=Lh hb;have h1:=ha.n_le;have h2:=hb.n_le;by_cases hl:xs.length=ys.length
 ·rw[<-hl] at HB h2 |-;obtain⟨n,hn⟩:=Xe xs.length;rw[<-hn] at HA HB h1 h2 |-;have HN:=Lh hn;have Ci:=Lh (hn.trans hl);clear ha hb hl hn;go_enter Tryz.func121,Tryz.ntmps121;go_wp2_with fail;go_loopg [13] n (fun left v13 wr=>∃ i:Nat,i<=n/\n - i<=left/\v13=.int .i64 i/\Hid (xs.take i=ys.take i)/\Hid (Below w.heap.size w wr));exact⟨0,by omega,by omega,rfl,by simp[Hid],Xr _ _⟩;obtain⟨i,hi,Dp,rfl,HE,HBR⟩:=hrel;by_cases Li:i<n
  ·have Fv:i<xs.length:=by rw[<-HN.o];exact Li
   have Gt:i<ys.length:=by rw[<-Ci.o];exact Li
   obtain⟨b1,o1,rfl,-,hb1,a0,a1,a2,-⟩:=(HA.o.below HBR.o).rowAt Fv;obtain⟨b2,o2,rfl,-,Ja,c0,c1,c2,-⟩:=(HB.o.below HBR.o).rowAt Gt;have HT:=Lh (Qc Fv);have HT2:=Lh (Qc Gt);have Ot:=Lh (Qa Fv);have cC:=Lh (Qa Gt);obtain⟨x,hx⟩:=Xe (xs[i]);obtain⟨y,hy⟩:=Xe (ys[i]);rw[<-hx] at a0 a1 a2 HT Ot;rw[<-hy] at c0 c1 c2 HT2 cC;clear hx hy Fv Gt;obtain⟨xa,xs1,xi⟩:=x;obtain⟨ya,ys1,yi⟩:=y;simp only at a0 a1 a2 c0 c1 c2;go_wp2_with fail;refine Text.wp_text [8] (by kernel_rfl) (by kernel_rfl) (fun Q' hQ'=>?_);go_wp2_with fail
   all_goals refine⟨by rfl,?_⟩
   case isTrue.isTrue.isTrue =>
    rename_i g1 g2 g3;subst g1 g2 g3;go_wp2_with fail;go_roundg (gk - 1);exact⟨i+1,by omega,by omega,by go_num,by show _=_;rw[HT.o,HT2.o,HE.o],HBR.o.drew⟩;omega
   all_goals
    have HNE:=Lh (show ¬ xs=ys by
     intro e
     have e2:=Ot.o.symm.trans ((congrArg (fun l:List Ud=>l[i]?) e).trans cC.o)
     injection e2 with e2
     injection e2 with e2 e3
     injection e3 with e3 e4
     contradiction)
    go_wp2_with fail;go_ret;exact⟨Kx (Zv (by rw[eq_comm,Yk];exact HNE.o)),HBR.o.drew⟩
  ·have HF:=Lh (show xs=ys by
    have:=HE.o
    rwa [Qd (by rw[<-HN.o];omega),Qd (by rw[<-Ci.o];omega)] at this)
   go_wp2_with fail;go_ret;exact⟨Kx (Zv (by rw[HF.o];simp)),HBR.o⟩
 ·have hd:((xs.length:Int) != ys.length)=true:=by simpa using (show ¬ (xs.length:Int)=ys.length by omega)
  have HL:=Lh hl;clear hl;go_enter Tryz.func121,Tryz.ntmps121;go_wp2_with fail;go_ret;exact⟨Kx (Zv (by rw[eq_comm,Yk];intro h;exact HL.o (congrArg List.length h))),by go_grown⟩
theorem qcH(A B:Option Addr)(ca cb:Nat)(xs ys:List Ud)(w:World)(ha:Je Aj w w.heap.size (.slice A xs.length ca) xs)(hb:Je Aj w w.heap.size (.slice B ys.length cb) ys) :
  Calls Tryz.prog 63 #[.slice A xs.length ca,.slice B ys.length cb] w fun e w'=>e=.returned (.bool (decide (xs=ys)))/\Below w.heap.size w w':=by
 have HE:=Lh (qfX A B ca cb xs ys w ha hb);clear ha hb;go_enter Tryz.func63,Tryz.ntmps63;go_wp2_with fail;refine HE.o.mono ?_;rintro e w1 ⟨rfl,hb1⟩;go_wp2_with fail;go_ret;exact⟨rfl,hb1⟩
theorem r_:Dc Tryz.prog 28 81 3 32 (.agg #[.int .i64 0,.string ⟨#[]⟩,.int .i64 0]):=Gq (by kernel_rfl) (by kernel_rfl) rfl (by omega)
def Wk(xs:List Ud):List Value:=(xs.map Tj).flatten
theorem oB(xs:List Ud)(x:Ud):Wk (xs++[x])=Wk xs++Tj x:=by simp[Wk]
theorem sQ(xs:List Ud):(Wk xs).length=xs.length*3:=by
 induction xs with
 |nil=>rfl
 |cons x l ih=>unfold Wk at *;rw[List.map_cons,List.flatten_cons,Qe,ih,Qu];simp;omega
def qpK(xs:List Ud):Prop:=∀ x∈xs,(-9223372036854775808<=x.1/\x.1<=9223372036854775807)/\x.2.1.length<=maxLen/\(-9223372036854775808<=x.2.2/\x.2.2<=9223372036854775807)
theorem n_{w:World}{base:Nat}{t:TypeId}{v:Value}{xs:List Ud}(hf:qpK xs)(h:w.ownsRow base t 3 v xs.length (Wk xs)):Je Aj w w.heap.size v xs:=by
 obtain⟨A,c,rfl,h1,h2⟩:=Zo h;refine⟨A,c,xs.map Tj,rfl,h1,h2,by simp,Rd.of_own h,fun i cs x hc hx=>?_⟩;rw[Qv,hx] at hc;injection hc with hc;subst hc;obtain⟨⟨a1,a2⟩,a3,a4,a5⟩:=hf x (Qp hx);exact qtT a1 a2 a3 a4 a5
theorem Je.fitR{w:World}{B:Nat}{v:Value}{xs:List Ud}(h:Je Aj w B v xs):qpK xs:=by
 obtain⟨A,c,css,e,h1,h2,h3,h4,h5⟩:=h;intro x hx;obtain⟨i,hi,rfl⟩:=Qz hx;exact (mT (h5 i _ _ (Qa (by omega)) (Qa hi))).2
def Wr(left:Int)(xs:List Ud):List Ud:=xs.filter fun x=>decide (x.1=left)
theorem mm(left:Int)(xs:List Ud)(k:Nat)(h:k<xs.length):Wr left (xs.take (k+1))=Wr left (xs.take k)++if xs[k].1=left then [xs[k]] else []:=by
 unfold Wr;rw[Qc h,List.filter_append];congr 1;by_cases hb:xs[k].1=left <;> simp[hb]
theorem qdF(left:Int)(xs:List Ud)(k:Nat):(Wr left (xs.take k)).length<=k:=by
 unfold Wr;refine Yb (List.length_filter_le _ _) ?_;rw[Qq];omega
def OwnRows(w:World)(l:List Ud)(e:Ending)(w':World):Prop:=∃ v,e=.returned v/\w'.ownsRow w.heap.size 81 3 v l.length (Wk l)/\Below w.heap.size w w'
theorem qsF(v:Value)(left:Int)(xs:List Ud)(w:World)(hv:Je Aj w w.heap.size v xs)(hr:xs.length<=1048576) :
  Calls Tryz.prog 47 #[v,.int .i64 left] w (OwnRows w (Wr left xs)):=by
 obtain⟨A,c,rfl,av,qN⟩:=hv.form;unfold maxLen at qN;go_enter Tryz.func47,Tryz.ntmps47;go_wp2_with fail;go_loopw [5,10] (fun v5 v10 wr=>∃ k:Nat,k<=xs.length/\v10=.int .i64 k/\wr.ownsRow w.heap.size 81 3 v5 (Wr left (xs.take k)).length (Wk (Wr left (xs.take k)))/\Below w.heap.size w wr) (fun _ v10 _=>xs.length - (intOf v10).toNat);exact⟨0,by omega,rfl,by simpa[Wr,Wk] using Yz _ _ _ _,by go_grown⟩;obtain⟨k,hk,rfl,hown,hbr⟩:=hrel;by_cases Ji:k<xs.length
 ·obtain⟨b1,o1,rfl,-,hb1,a0,a1,a2,-⟩:=(hv.below hbr).rowAt Ji;have hsn:=Lh (mm left xs k Ji);have hle:=qdF left xs k;have hbs:=hbr.size;obtain⟨x,hx⟩:=Xe (xs[k]);rw[<-hx] at a0 a1 a2 hsn;clear hx;obtain⟨xa,xs1,xi⟩:=x;simp only at a0 a1 a2;by_cases hq:xa=left
  ·have hqb:(xa==left)=true:=by simp[hq]
   have HQ:=Lh hq;clear hq;go_wp2_with (at_builtin;refine Zz (m:=1) r_ rfl rfl rfl rfl ((hown.alloc _).alloc _) (Rd.row (B:=wr.heap.size+2) (Fu wr _ _) (by omega)) rfl (by simp[Value.oneCell']) ?h63 ?hby ?hbase ?_)
   case h63=>simp only[maxLen];omega
   case hby=>omega
   case hbase=>omega
   intro v1 w3 Tf mN _ _;go_wp2;go_roundw
   case rel =>
    refine⟨k+1,by omega,by go_num,?_,?_⟩
    ·rw[hsn.o,if_pos HQ.o];rw[oB,Qe];exact Tf
    ·exact Zt ((hbr.alloc hbs _).alloc (by simp;omega) _) mN ((hown.alloc _).alloc _) (Ya _) (by simp;omega)
   case measure=>simp[intOf];omega
  ·have hqb:(xa==left)=false:=by simp[hq]
   have HQ:=Lh hq;clear hq;go_wp2_with fail;go_roundw;exact⟨k+1,by omega,by go_num,by rw[hsn.o,if_neg HQ.o,List.append_nil];exact hown.alloc _,hbr.alloc hbs _⟩;simp[intOf];omega
 ·have Eu:k=xs.length:=by omega
  subst Eu;rw[List.take_length] at hown;go_wp2_with fail;go_ret;exact⟨_,rfl,hown,hbr⟩
open Go.RowKit Go.Sort
theorem sR:∀(ks:List Ud)(t:Nat),t<ks.length*3->(Wk ks)[t]? = some ((Tj (ks.toArray[t/3]!))[t%3]!)
 |[],t,h=>by simp at h
 |k::r,t,h=>by
  unfold Wk;rw[List.map_cons,List.flatten_cons];by_cases ht:t<3
  ·rw[Qo (by exact ht),Nat.div_eq_of_lt ht,Nat.mod_eq_of_lt ht];have hl:t<(Tj k).length:=ht;rw[Qa hl];simp only[List.getElem!_toArray,List.getElem!_cons_zero];rw[getElem!_pos (Tj k) t hl]
  ·rw[Qn (by simp only[Tj,Qu,Xt];omega)];have ih:=sR r (t - 3) (by rw[Qu,Nat.add_mul] at h;omega);unfold Wk at ih;rw[show t - (Tj k).length=t - 3 from rfl,ih];have e1:t/3=(t - 3)/3+1:=by omega
   have e2:t%3=(t - 3)%3:=by omega
   rw[e1,e2];have Ji:(t - 3)/3<r.length:=by rw[Qu,Nat.add_mul] at h;omega
   simp[Ji]
theorem uN(ks:List Ud):(flatK Tj 3 ks.toArray).toList=Wk ks:=by
 apply List.ext_getElem?;intro t;by_cases h:t<ks.length*3
 ·rw[sR ks t h,Array.getElem?_toList];have h':t<ks.toArray.size*3:=by simpa using h
  have hs:t<(flatK Tj 3 ks.toArray).size:=by rw[size_flatK];exact h'
  have:=get_flatK Tj 3 ks.toArray t h';rw[getElem!_pos _ t hs] at this;rw[Array.getElem?_eq_getElem hs,this]
 ·rw[Xf (by rw[Array.length_toList,size_flatK];simpa using h),Xf (by rw[sQ];omega)]
theorem nh(x y:Ud):ltOf gF x y=true↔Md x y:=by
 unfold ltOf;rw[Yj];exact t_ x y
theorem mE(x y:Ud):ltOf gF x y=false↔¬ Md x y:=by
 rw[<-nh,Bool.not_eq_true]
theorem qcM{a a' b:Ud}(h:Ws a=Ws a')(hl:Md a b):Md a' b:=by
 unfold Ws at h;injection h with h1 h2;unfold Md at *;rw[<-h1,<-h2];exact hl
theorem zmU:SWO (ltOf gF) where
 irrefl:=fun x=>by rw[mE];exact fun h=>iZ h rfl
 trans:=fun x y z h1 h2=>by rw[nh] at *;exact aU h1 h2
 ntrans:=fun x y z h1 h2=>by
  rw[mE] at *;intro h;rcases yZ x y with h3 | h3 | h3
  ·exact h1 h3
  ·exact h2 (qcM h3 h)
  ·exact h2 (aU h3 h)
theorem yd{w:World}{g:Nat}{cur:Array Value}{e:TypeId}{ks:List Ud}(hb:w.heap[g]? = some (.cells cur e (0,0)))(ht:cur.toList.take (ks.length*3)=Wk ks):HoldsK Tj 3 w g 0 ks.toArray:=by
 intro j hj;have Hs:j<ks.length*3:=by simpa using hj
 refine⟨?_,by simp[World.frozen?,hb]⟩;have h1:(cur.toList.take (ks.length*3))[j]? = (flatK Tj 3 ks.toArray).toList[j]? := by rw[ht,uN]
 rw[List.getElem?_take_of_lt Hs,Array.getElem?_toList,Array.getElem?_toList,Array.getElem?_eq_getElem hj] at h1;rw[getElem!_pos _ j hj];simp only[World.cell?,hb,Yq];simp only[Option.isSome_none,Bool.false_eq_true,if_false];rw[h1];rfl
theorem ej{w:World}{g n:Nat}{os:Array Obj}{cur:Array Value}{e:TypeId}{fr:Nat×Nat}(F:Array Value)(hb:w.heap[g]? = some (.cells cur e fr)) :
  (Go.Sort.grow (putRow id (Sort.ahead w n) g 0 F) os).heap[g]? = some (.cells (putCells id 0 F cur) e fr):=by
 have hg:g<w.heap.size:=(gl hb);rw[heap_grow_old _ _ (by simpa using hg)];simp[putRow,mapBlock,Sort.ahead,Xy,hb,onCells]
theorem pO{w:World}{g n:Nat}{os:Array Obj}(F:Array Value):w.grownBy (Go.Sort.grow (putRow id (Sort.ahead w n) g 0 F) os) (some g):=by
 refine⟨rfl,rfl,rfl,by simp,fun k hk hne=>?_⟩;rw[heap_grow_old _ _ (by simpa using hk)];have:g≠k:=fun e=>hne (by rw[e]);simp[putRow,mapBlock,Sort.ahead,Xy,this]
theorem rN(cur F:Array Value)(h:F.size<=cur.size):(putCells id 0 F cur).toList.take F.size=F.toList:=by
 apply List.ext_getElem?;intro j;by_cases hj:j<F.size
 ·rw[List.getElem?_take_of_lt hj,Array.getElem?_toList];simp[putCells,hj,show j<cur.size by omega]
 ·rw[List.getElem?_take_eq_none (by omega),Xf (by simp;omega)]
theorem qeA(w:World):(isAgg 81).run Tryz.prog w=.ok true w:=by kernel_rfl
theorem tr(w:World):(Go.sizeOf 81).run Tryz.prog w=.ok 3 w:=by kernel_rfl
def F_(base:Nat)(v:Value)(ks:List Ud)(w:World)(w':World):Prop :=
 ∃ ks':List Ud,ks'.Perm ks/\ks'.Pairwise (fun a b=>¬ Md b a)/\w'.ownsRow base 81 3 v ks'.length (Wk ks')/\w.grownBy w' v.ownBlock
theorem de(base:Nat)(A:Option Addr)(c:Nat)(ks:List Ud)(w:World)(h:w.ownsRow base 81 3 (.slice A ks.length c) ks.length (Wk ks))(hn:ks.length<4611686018427387904) :
  Calls Tryz.prog 41 #[.slice A ks.length c,.func (.func 42) #[] #[]] w fun e w'=>e=.returned (.tuple #[])/\F_ base (.slice A ks.length c) ks w w':=by
 have eg:∀ args w,(callFunc 42 args).run Tryz.prog w=.ok (.enter 42 args) w:=enters_of Tryz.func42 (by kernel_rfl) rfl;have HH:=Lh h;rcases HH.o.2 with ⟨xR,h0⟩ | ⟨g,cap,cur,hv,hbase,hb,h1,h2,h3,h4⟩
 ·injection xR with e1 e2 e3;subst e1;rw[h0];refine (AnyF.slices_SortFunc_none { Tryz.sortLay with } none c _ w).mono fun e w' ⟨he,hw⟩=>⟨he,ks,List.Perm.refl _,?_,?_,?_⟩
  ·rw[Xw h0];exact List.Pairwise.nil
  ·subst hw;have:=HH.o;rw[h0] at this;rw[h0];exact this
  ·subst hw;exact⟨rfl,rfl,rfl,Ya _,fun _ _ _=>rfl⟩
 ·injection hv with e1 e2 e3;subst e1 e3;have hH:=yd hb h4;have hgl:g<w.heap.size:=(gl hb);have:=AnyQ.slices_SortFunc Tryz.sortLay 3 qeA tr Tj (fun _=>rfl) (fun k u hu=>by simp only[Tj,List.mem_cons,List.not_mem_nil,or_false] at hu;rcases hu with rfl | rfl | rfl <;> rfl) gF zmU 42 #[] g 0 c ks.toArray w eg (fun m os dk hdk x y=>(zJ x y _).mono fun e w' ⟨he,hb,hd⟩=>⟨he,uG hb hd⟩) hH hgl (by simpa using hn);simp only[List.size_toArray] at this;refine Calls.mono this fun e w' ⟨he,d',n,os,hp,hs,hw⟩=>⟨he,d'.toList,?_,?_,?_,?_⟩
  ·obtain⟨p1,_,p3⟩:=hp;have e1:d'.extract 0 ks.length=d':=by
    apply Array.extract_eq_self_of_le;rw[p1];simp
   have e2:ks.toArray.extract 0 ks.length=ks.toArray:=by
    apply Array.extract_eq_self_of_le;simp
   rw[e1,e2] at p3;simpa using p3
  ·rw[List.pairwise_iff_getElem];intro i j hi hj hij;have Ek:d'.size=ks.length:=by rw[hp.1];simp
   have:=hs i j (Yf _) hij (by rw[<-Ek];simpa using hj);rw[mE] at this;have Hs:j<d'.size:=by simpa using hj
   have hi':i<d'.size:=by simpa using hi
   rw[getElem!_pos d' j Hs,getElem!_pos d' i hi'] at this;simpa using this
  ·have Ek:d'.toList.length=ks.length:=by rw[Array.length_toList,hp.1];simp
   subst hw;have hF:(flatK Tj 3 d')=(flatK Tj 3 d'.toList.toArray):=by simp
   rw[Ek];refine⟨by rw[sQ,Ek],.inr ⟨g,c,_,rfl,hbase,ej _ hb,h1,h2,by simp[putCells,h3],?_⟩⟩;have hfs:(flatK Tj 3 d').size=ks.length*3:=by rw[size_flatK,hp.1];simp
   have:=rN cur (flatK Tj 3 d') (by rw[hfs,h3];exact Nat.mul_le_mul_right 3 h1);rw[hfs] at this;rw[this,hF,uN]
  ·subst hw;exact pO _
structure aF(N0:Nat)(w w':World):Prop where
 below:Below N0 w w'
 size:w.heap.size<=w'.heap.size
 typed:∀(g:Nat)(cs:Array Value)(t:TypeId)(fr:Nat×Nat),w.heap[g]? = some (.cells cs t fr)->t≠85->t≠32->w'.heap[g]? = some (.cells cs t fr)
theorem aF.refl(N0:Nat)(w:World):aF N0 w w:=⟨Xr _ _,Ya _,fun _ _ _ _ h _ _=>h⟩
theorem aF.trans{N0:Nat}{w w1 w2:World}(h:aF N0 w w1)(h2:aF N0 w1 w2):aF N0 w w2:=⟨h.below.trans h2.below,Yb h.size h2.size,fun g cs t fr hg h3 h4=>h2.typed g cs t fr (h.typed g cs t fr hg h3 h4) h3 h4⟩
theorem aF.of_below{N0:Nat}{w w':World}(h:Below w.heap.size w w')(hN:N0<=w.heap.size):aF N0 w w':=⟨h.mono hN,h.size,fun _ _ _ _ hg _ _=>(h.block _ (gl hg)).trans hg⟩
def Us:List Nat->List (Nat×Nat)
 |[]=>[]
 |a::l=>l.map (fun b=>(a,b))++Us l
def zgY{σ:Type}(F:FuncId)(cap:Array Value)(l:List Nat)(N0:Nat)(f:σ->Nat×Nat->σ)(s0:σ)(I:σ->World->Prop):Prop :=
 ∀(pre post:List (Nat×Nat))(w1:World)(a b:Nat),Us l=pre++(a,b)::post->a∈l->b∈l->I (pre.foldl f s0) w1->N0<=w1.heap.size->Calls Tryz.prog F (#[.int .i64 a,.int .i64 b]++cap) w1 fun e w2=>e=.returned (.tuple #[])/\I (f (pre.foldl f s0) (a,b)) w2/\aF N0 w1 w2
def Hy{σ:Type}(l:List Nat)(f:σ->Nat×Nat->σ)(s0 s:σ)(rest:List (Nat×Nat)):Prop:=∃ pre,s=pre.foldl f s0/\Us l=pre++rest
theorem Hy.next{σ:Type}{l:List Nat}{f:σ->Nat×Nat->σ}{s0 s:σ}{p:Nat×Nat}{rest:List (Nat×Nat)}(h:Hy l f s0 s (p::rest)):Hy l f s0 (f s p) rest:=by
 obtain⟨pre,rfl,h⟩:=h;exact⟨pre++[p],by simp,by simp[h]⟩
theorem Hy.done{σ:Type}{l:List Nat}{f:σ->Nat×Nat->σ}{s0 s:σ}(h:Hy l f s0 s []):s=(Us l).foldl f s0:=by
 obtain⟨pre,rfl,h⟩:=h;rw[h,List.append_nil]
theorem vb(rs:Zu)(left:Int):Ir rs left rs.length=(Wc rs left).map fun i:Nat=>(i:Int):=rfl
theorem qcT{σ:Type}(F:FuncId)(cap:Array Value)(hF:∀(args:Array Value)(w:World),(callFunc F args).run Tryz.prog w=.ok (.enter F args) w)(f:σ->Nat×Nat->σ)(I:σ->World->Prop){A1 A2 A3:Option Addr}{n m q c1 c2 c3 N0:Nat}{g:Kc}(left:Int)(s0:σ)(w:World)
  (h:Nb w w.heap.size A1 A2 A3 n m q c1 c2 c3 g) (hN:N0<=w.heap.size) (hI:∀ s w1 w2,I s w1->Below w1.heap.size w1 w2->I s w2) (h0:I s0 w) (eT:zgY F cap (Wc g.2.2 left) N0 f s0 I) :
  Calls Tryz.prog 92 #[Ri A1 A2 A3 n m q c1 c2 c3,.int .i64 left,.func (.func F) #[] cap] w fun e w'=>e=.returned (.tuple #[])/\I ((Us (Wc g.2.2 left)).foldl f s0) w'/\aF N0 w w':=by
 have Mo:=(Xr w.heap.size w).alloc (Ya _) (.cells #[.slice A1 n c1,.slice A2 m c2,.slice A3 q c3] 25);have HZ:=Lh (Xs w (.cells #[.slice A1 n c1,.slice A2 m c2,.slice A3 q c3] 25));have HV:=Lh (h.fut (B':=w.heap.size+1) Mo (Ya _) (by omega));have HBX:=Lh Mo;have HI:=Lh hI;have HI1:=Lh (hI _ _ _ h0 Mo);have HF:=Lh hF;have HS:=Lh eT;have wN:=h.small;have HQ:=Lh h.ln.2.2;have HLE:=Lh (show (Wc g.2.2 left).length<=1048576 by
  unfold Wc
  refine Yb (List.length_filter_le _ _) ?_
  rw[List.length_range,<-h.ln.2.2]
  exact wN.2.2)
 clear h Mo hI h0 hF eT;go_enter Tryz.func92,Tryz.ntmps92;go_wp2_with fail;generalize w.alloc (.cells #[.slice A1 n c1,.slice A2 m c2,.slice A3 q c3] 25)=w1 at *;refine (ey A1 A2 (.slice A3 q c3) n m c1 c2 left g.2.2 w1 (by rw[HZ.o];exact HV.o.rules) (by rw[<-HQ.o];omega)).mono ?_;rintro e w2 ⟨v,rfl,hown,Ja⟩;rw[vb] at hown;obtain⟨l,hl⟩:=Xe (Wc g.2.2 left);rw[<-hl] at hown HLE;have HLL:=Lh hl;have HI2:=Lh (HI.o _ _ _ HI1.o Ja);have wX:=Lh (aF.of_below (HBX.o.trans (Ja.mono (by rw[HZ.o];omega))) hN);have HO:=Lh hown;rw[Qk] at HO hown;obtain⟨nl,Ly⟩:=Xe l.length;rw[<-Ly] at HO HLE hown;have iL:=Lh Ly;obtain⟨Oq,oh⟩:=Xe ((Us l).foldl f s0);have HTOT:=Lh oh;have Mg:Hid (∀(e:Ending)(w':World),e=.returned (.tuple #[])->I Oq w'->aF N0 w w'->e=.returned (.tuple #[])/\I ((Us (Wc g.2.2 left)).foldl f s0) w'/\aF N0 w w'):=by
  intro e w' h1 h2 h3;rw[<-HLL.o,<-HTOT.o];exact⟨h1,h2,h3⟩
 rcases hown.2 with ⟨rfl,hz⟩ | ⟨gl,zgU,cur,rfl,hbase,hgl,wR,dD,hl3,hl4⟩
 ·have HT0:=Lh (show Oq=s0 by
   rw[oh,(Xw (by rw[<-Ly];exact hz):l=[])]
   rfl)
  have hnl0:nl=0:=hz;clear hown Ja hl Ly oh hz;go_wp2_with fail;go_loopg [16] 0 (fun lft ju wr=>ju=.int .i64 0/\wr=w2);exact⟨rfl,rfl⟩;obtain⟨rfl,rfl⟩:=hrel;go_wp2_with fail
  go_end0
  exact Mg.o _ _ rfl (by rw[HT0.o];exact HI2.o) wX.o
 ·have HGL:=Lh hgl;have ziV:Hid (∀(w':World),w'.heap[gl]? = some (.cells cur 3 (0,0))->∀ i (hi:i<l.length),w'.cell? ⟨gl,i,none⟩=some (.int .i64 ((l[i]:Nat):Int))):=by
   intro w' hw i hi;rw[Zc w' gl i _ _ _ hw,<-Array.getElem?_toList];have:(cur.toList.take (nl*1))[i]? = cur.toList[i]? := List.getElem?_take_of_lt (by omega);rw[<-this,hl4];simp[Kl,hi]
  have hle:=HLE.o;clear hown Ja hl Ly oh hgl hl4;go_wp2_with fail;go_loopg [16] nl (fun lft ju wr=>∃(i:Nat)(s:σ),i<=nl/\nl - i<=lft/\ju=.int .i64 i/\Hid (Hy l f s0 s (Us (l.drop i)))/\Hid (I s wr)/\Hid (aF N0 w2 wr));exact⟨0,s0,by omega,by omega,rfl,⟨[],rfl,rfl⟩,HI2.o,aF.refl _ _⟩;clear HI2;obtain⟨i,s,hi,oy,rfl,HTI,HIS,HCA⟩:=hrel;obtain⟨gas,Gf⟩:=Xe gk;rw[<-Gf] at oy;have HGK:=Lh Gf;clear Gf;have mN:=HCA.o.typed gl cur _ _ HGL.o (by decide) (by decide);by_cases Ua:i<nl
  ·have Wt:i<l.length:=by rw[<-iL.o];exact Ua
   have Vh:=ziV.o _ mN i Wt;have Tp:=Lh (Qg Wt);have HTI2:=Lh (show Hy l f s0 s (((l.drop (i+1)).map fun b=>(l[i],b))++Us (l.drop (i+1))) by have:=HTI.o;rwa [Ql Wt] at this);obtain⟨a,ha⟩:=Xe (l[i]);rw[<-ha] at Vh Tp HTI2;clear ha Wt mN HTI;by_cases yw:zgU=i+1
   ·have hni:nl=i+1:=by omega
    have HTI3:=Lh (show Hy l f s0 s (Us (l.drop (i+1))) by
     have:=HTI2.o
     rwa [List.drop_eq_nil_of_le (by rw[<-iL.o];omega)] at this |-)
    subst yw;subst hni;go_wp2_with fail;go_loopg [26] 0 (fun lft v26 wt=>v26=.int .i64 0/\wt=wr);exact⟨rfl,rfl⟩;obtain⟨rfl,rfl⟩:=hrel;go_wp2_with fail;go_roundg (gas - 1);exact⟨i+1,s,by omega,by omega,by go_num,HTI3.o,HIS.o,HCA.o⟩;have:=HGK.o;omega
   ·go_wp2_with fail;go_loopg [26] (nl - (i+1)) (fun lft v26 wt=>∃(j:Nat)(t:σ),j<=nl - (i+1)/\nl - (i+1) - j<=lft/\v26=.int .i64 j/\Hid (Hy l f s0 t ((((l.drop (i+1)).drop j).map fun b=>(a,b))++Us (l.drop (i+1))))/\Hid (I t wt)/\Hid (aF N0 w2 wt));exact⟨0,s,by omega,by omega,rfl,HTI2.o,HIS.o,HCA.o⟩;clear HTI2 HIS HCA Vh;obtain⟨j,t,hj,qmC,rfl,HTJ,HIT,HCA⟩:=hrel;have mN:=HCA.o.typed gl cur _ _ HGL.o (by decide) (by decide);by_cases hjn:j<nl - (i+1)
    ·have Mn:i+1+j<l.length:=by rw[<-iL.o];omega
     have Nj:=ziV.o _ mN (i+1+j) Mn;have qwY:=Lh (Qg Mn);have HTJ2:=Lh (show Hy l f s0 t ((a,l[i+1+j])::((((l.drop (i+1)).drop (j+1)).map fun b=>(a,b))++Us (l.drop (i+1)))) by
      have yq:j<(l.drop (i+1)).length:=by rw[Xj];omega
      have:=HTJ.o
      rwa [Ql yq,List.map_cons,List.cons_append,List.getElem_drop] at this)
     obtain⟨b,hb⟩:=Xe (l[i+1+j]);rw[<-hb] at Nj qwY HTJ2;clear hb Mn mN HTJ;go_wp2_with fail;rw[HF.o];obtain⟨pre,Bw,Uc⟩:=HTJ2.o;refine (HS.o pre _ _ a b (by rw[<-HLL.o];exact Uc) (by rw[<-HLL.o];exact Tp.o) (by rw[<-HLL.o];exact qwY.o) (by rw[<-Bw];exact HIT.o) (Yb hN (Yb wX.o.size HCA.o.size))).mono ?_;rw[<-Bw];clear Bw Uc;rintro e w5 ⟨rfl,hi5,hc5⟩;have HI5:=Lh hi5;have HC5:=Lh (HCA.o.trans hc5);clear hi5 hc5;go_wp2_with fail;go_roundg (gk - 1);exact⟨j+1,f t (a,b),by omega,by omega,by go_num,HTJ2.o.next,HI5.o,HC5.o⟩;omega
    ·have HTJ2:=Lh (show Hy l f s0 t (Us (l.drop (i+1))) by
      have:=HTJ.o
      rwa [show (l.drop (i+1)).drop j=[] from List.drop_eq_nil_of_le (by rw[Xj,<-iL.o];omega)] at this)
     clear mN HTJ;go_wp2_with fail;go_roundg (gas - 1);exact⟨i+1,t,by omega,by omega,by go_num,HTJ2.o,HIT.o,HCA.o⟩;have:=HGK.o;omega
  ·have HT0:=Lh (show Oq=s by
    have:=HTI.o
    rw[List.drop_eq_nil_of_le (by rw[<-iL.o];omega)] at this
    exact HTOT.o.trans (Hy.done this).symm)
   go_wp2_with fail
   go_end0
   exact Mg.o _ _ rfl (by rw[HT0.o];exact HIS.o) (wX.o.trans HCA.o)
end Go.Proofs.YtmaojnmnbpomeaaGreatDoor
