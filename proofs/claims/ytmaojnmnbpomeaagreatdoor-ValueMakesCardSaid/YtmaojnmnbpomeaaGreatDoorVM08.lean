/- A part. -/
import Derived.Test.YtmaojnmnbpomeaaGreatDoorVM07
set_option maxRecDepth 100000
set_option maxHeartbeats 64000000
namespace Go.Proofs.YtmaojnmnbpomeaaGreatDoor
open Go.RowKit Go.Sort
structure Rs(w:World)(g S K G lo C n k:Nat)(sets:Zw)(gr:Bool):Prop where
 row:Ef 22 g lo lo w sets
 len:sets.length=n
 small:Dr sets
 asc:Uv sets
 bS:w.heap[S]? = some (.cells #[.slice (some ⟨g,0,none⟩) n n] 76 (0,0))
 bK:w.heap[K]? = some (.cells #[.int .i64 k] 3 (0,0))
 bG:w.heap[G]? = some (.cells #[.bool gr] 4 (0,0))
 le:C<=g/\C<=S/\C<=G/\K<C/\g<lo/\S<lo/\G<lo/\lo<=w.heap.size/\g≠S/\g≠G/\S≠G
theorem Rs.below{w w':World}{g S K G lo C n k:Nat}{sets:Zw}{gr:Bool}(h:Rs w g S K G lo C n k sets gr)(hb:Below w.heap.size w w'):Rs w' g S K G lo C n k sets gr:=by
 obtain⟨l1,l2,l3,l4,l5,l6,l7,l8,l9⟩:=h.le;exact⟨h.row.below hb,h.len,h.small,h.asc,(hb.block S (by omega)).trans h.bS,(hb.block K (by omega)).trans h.bK,(hb.block G (by omega)).trans h.bG,l1,l2,l3,l4,l5,l6,l7,Yb l8 hb.size,l9⟩
theorem ft{w:World}{G:Nat}{v u:Value}{t:TypeId}(h:w.heap[G]? = some (.cells #[v] t (0,0))):(w.setCell ⟨G,0,none⟩ u).heap[G]? = some (.cells #[u] t (0,0)):=by
 simp only[World.setCell,Xy,if_true,h,Option.map_some];rfl
theorem Rs.setG{w:World}{g S K G lo C n k:Nat}{sets:Zw}{gr:Bool}(h:Rs w g S K G lo C n k sets gr)(b:Bool):Rs (w.setCell ⟨G,0,none⟩ (.bool b)) g S K G lo C n k sets b:=by
 obtain⟨l1,l2,l3,l4,l5,l6,l7,l8,l9,l10,l11⟩:=h.le;exact⟨h.row.other _ l10 l7 (by show G≠lo;omega),h.len,h.small,h.asc,by rw[Zd _ _ _ _ (show S≠G from l11)];exact h.bS,by rw[Zd _ _ _ _ (show K≠G by omega)];exact h.bK,ft h.bG,l1,l2,l3,l4,l5,l6,l7,by simpa[World.setCell] using l8,l9,l10,l11⟩
def iv(w:World)(g S K G lo C n k:Nat)(gr:Bool)(o:Option (Zw×Bool))(e:Ending)(w':World):Prop :=
 Below C w w'/\match o with
 |none=>e=.returned (.bool false)
 |some (s',g')=>e=.returned (.bool true)/\Rs w' g S K G lo C n k s' (gr||g')
theorem Pu{x:List Wd}(h:Dj x):nM x:=fun y hy=>by have:=h y hy;unfold maxLen;omega
theorem qfJ(w:World)(g S K G lo C n k N:Nat)(sets:Zw)(gr:Bool)(a:Nat)(r:List Int)(A:Option Addr)(q c:Nat)(h:Rs w g S K G lo C n k sets gr)(Iu:1<=k)(iH:k<=4)(ha:a<n)(hn:n<=256)(hq:q=r.length)(hr:Je Wo w N (.slice A q c) r)(hN:N<=w.heap.size) :
  Calls Tryz.prog 145 #[yW a A q c,.pointer (some ⟨S,0,none⟩),.pointer (some ⟨K,0,none⟩),.pointer (some ⟨G,0,none⟩)] w (iv w g S K G lo C n k gr (Ew k sets ((a:Int),r))):=by
 have Mo:=(Xr w.heap.size w).alloc (Ya _) (.cells #[.int .i64 a,.slice A q c] 63);have HH:=Lh h;have H1:=Lh (h.below Mo);have HZ:=Lh (Xs w (.cells #[.int .i64 a,.slice A q c] 63));have HK:=Lh (Xn w (.cells #[.int .i64 a,.slice A q c] 63));have HBX:=Lh Mo;have hOF:=oS (some ⟨g,0,none⟩) A n c k sets r (w.alloc (.cells #[.int .i64 a,.slice A q c] 63)) Iu iH (by have:=(h.below Mo).row.sl (by rw[h.len];unfold maxLen;omega);rw[h.len] at this |-;exact this) (by rw[<-hq];exact hr.fut Mo hN (by rw[Xs];omega)) (fun i x hx=>by have:=h.small i x hx;exact⟨this.1,by omega⟩);rw[h.len,<-hq] at hOF;have nI:=Lh hOF;clear h Mo hq hr hOF;have cS:=Vo HH.o.bS;have cK:=Vo HH.o.bK;have lS:=(gl HH.o.bS);have lK:=(gl HH.o.bK);go_enter Tryz.func145,Tryz.ntmps145;go_wp2_with fail;clear cS cK lS lK;generalize w.alloc (.cells #[.int .i64 a,.slice A q c] 63)=w1 at *;refine nI.o.mono ?_;rintro e w2 ⟨Ja,he⟩;have HB2:=Lh (HBX.o.trans (Ja.mono (by rw[HZ.o];omega)));have HST2:=Lh (H1.o.below Ja);have HK2:=Lh ((Ja.block w.heap.size (by rw[HZ.o];omega)).trans HK.o);have hCw:C<=w.heap.size:=by have:=HH.o.le;omega
 cases ho:lZ sets k r with
 |none =>
  rw[ho] at he;subst he;have HG:=Lh (show Ew k sets ((a:Int),r)=none by unfold Ew;simp only[ho];rfl);clear ho Ja;go_wp2_with fail;go_ret;refine⟨HB2.o.mono hCw,?_⟩;rw[HG.o];rfl
 |some x =>
  rw[ho] at he;obtain⟨Ax,cx,rfl,Ab⟩:=he;have HX:=Lh (x_ iH ho);obtain⟨qx,ot⟩:=Xe x.length;rw[<-ot] at Ab |-;have jn:=Lh Ab;have has:a<sets.length:=by rw[HST2.o.len];exact ha
  obtain⟨Ao,co,hco,ho1,ho2,hhi,hfz⟩:=HST2.o.row.get has;have rx:=Lh (show sets.getD a []=sets[a] by rw[Qb,Qa has];rfl);obtain⟨old,hold⟩:=Xe (sets[a]);rw[<-hold] at hco ho1 hhi rx;obtain⟨qo,hqo⟩:=Xe old.length;rw[<-hqo] at hco ho1 hhi;have HHI:=Lh hhi;have HQO:=Lh hqo;have HGW:=Lh (show Ew k sets ((a:Int),r)=if (Km old x).length<=4096 then some (sets.set a (Km old x),decide (old.length<(Km old x).length)) else none by
   unfold Ew
   simp only[ho,Option.bind_some,Yy,rx.o])
  have HOB:=Lh (show Dj old/\old.length<=4096 by rw[<-rx.o];exact HST2.o.small.getD a);have cS:=Vo HST2.o.bS;have c0:w2.cell? ⟨w.heap.size,0,none⟩=some (.int .i64 a):=Xc HK2.o rfl;have lS:=(gl HST2.o.bS);have lG:=(gl HST2.o.bG);have lg:=HST2.o.row.lt;have lb:=(gl HK2.o);clear ho Ab ot hold has hqo hhi;go_wp2_with fail;have hb3:=(Xr w2.heap.size w2).alloc (Ya _) (.cells #[.slice Ao qo co,.slice Ax qx cx] 22);have qlQ:=HST2.o.below hb3;have eh:=Xn w2 (.cells #[.slice Ao qo co,.slice Ax qx cx] 22);have HU:=Lh (yH (some ⟨w2.heap.size,0,none⟩) 2 old x (w2.alloc (.cells #[.slice Ao qo co,.slice Ax qx cx] 22)) (m_ eh (HHI.o.sl.fut hb3 (Ya _) hb3.size) (jn.o.fut hb3 (Ya _) hb3.size)) (by have:=HOB.o.2;have:=HX.o.2;omega));have HB3:=Lh hb3;have wD:=Lh qlQ;clear hb3 qlQ eh cS c0 hco hfz lS lG lg lb;generalize w2.alloc (.cells #[.slice Ao qo co,.slice Ax qx cx] 22)=w3 at *;refine HU.o.mono ?_;rintro e w4 ⟨v4,rfl,hown,hb4⟩;have Cp:=Lh (wD.o.below hb4);have quY:=Lh (HB3.o.trans (hb4.mono HB3.o.size));have HK4:=Lh ((quY.o.block w.heap.size (gl HK2.o)).trans HK2.o);have HB4:=Lh (HB2.o.trans (quY.o.mono HB2.o.size));have ik:=Lt (Dj (Km old x)) (Cw HOB.o.1 HX.o.1);have eY:w4.ownsRow w3.heap.size 9 1 v4 (Km old x).length (Jf (Km old x)):=hown;have HHU:=Lh (Hi.own (lo:=lo) (e0:=lo) (Pu ik.o) eY (.inl (by have:=wD.o.le;omega)));obtain⟨A4,c4,rfl,pk,h42⟩:=Zo eY;have rt:=Lh (show (Km old x).length<=8192 by
   have:=sA (old++x)
   rw[Qe] at this
   have h1:=HOB.o.2
   have h2:=HX.o.2
   unfold Km
   omega)
  obtain⟨u,hu⟩:=Xe (Km old x);rw[<-hu] at HGW ik HHU pk rt;rw[<-hu];have HUU:=Lh hu;clear hown eY hb4 HU hu;obtain⟨qu,hqu⟩:=Xe u.length;rw[<-hqu] at HGW HHU pk rt |-;have HQU:=Lh hqu;rw[<-HQO.o] at HGW;clear hqu;have znW:=rt.o;have has:a<sets.length:=by rw[Cp.o.len];exact ha
  obtain⟨Ao',co',qzF,qeP,zoE,qzC,zpH⟩:=Cp.o.row.get has;have ov:sets[a].length=qo:=by
   have:=rx.o;rw[Qb,Qa has] at this;rw[HQO.o,<-this];rfl
  rw[ov] at qzF qeP;have cS:=Vo Cp.o.bS;have cG:=Vo Cp.o.bG;have fG:w4.frozen? ⟨G,0,none⟩=false:=by simp[World.frozen?,Cp.o.bG]
  have c0:w4.cell? ⟨w.heap.size,0,none⟩=some (.int .i64 a):=Xc HK4.o rfl;obtain⟨l1,l2,l3,l4,l5,l6,l7,l8,l9,l10,l11⟩:=Cp.o.le;have hgb:G≠w.heap.size:=by have:=HH.o.le;omega
  have hgb2:g≠w.heap.size:=by have:=HH.o.le;omega
  clear qzC ov has;have Mg:Hid (∀(b:Bool)(w5:World),w5=(w4.setCell ⟨G,0,none⟩ (.bool b)).setCell ⟨g,a,none⟩ (.slice A4 qu c4)->qu<=4096->b=(gr||decide (qo<qu))->iv w g S K G lo C n k gr (Ew k sets ((a:Int),r)) (.returned (.bool true)) w5):=by
   rintro b w5 rfl hle rfl;have hG:(w4.setCell ⟨G,0,none⟩ (.bool (gr||decide (qo<qu)))).heap[G]? = some (.cells #[.bool (gr||decide (qo<qu))] 4 (0,0)):=by
    simp only[World.setCell,Xy,if_true,Cp.o.bG,Option.map_some];rfl
   refine⟨((HB4.o.mono hCw).setCell l3 _).setCell l1 _,?_⟩;rw[HGW.o,if_pos hle];refine⟨rfl,⟨(Cp.o.row.other _ l10 l7 (by show G≠lo;omega)).set l5 (by omega) (HHU.o.keep (by simp[World.setCell]) fun p hp _=>World.cell?_of_block (Zd _ _ _ _ (by show p.block≠G;rcases hp with hp | hp <;> omega))),by rw[Qm];exact Cp.o.len,Cp.o.small.set _ ⟨ik.o,by rw[<-HQU.o];exact hle⟩,Cp.o.asc.set _ (by rw[HUU.o];exact Fz _ _),?_,?_,?_,l1,l2,l3,l4,l5,l6,l7,by simpa[World.setCell] using l8,l9,l10,l11⟩⟩
   ·rw[Zd _ _ _ _ (fun e=>l9 e.symm),Zd _ _ _ _ (show S≠G from l11)];exact Cp.o.bS
   ·rw[Zd _ _ _ _ (show K≠g by omega),Zd _ _ _ _ (show K≠G by omega)];exact Cp.o.bK
   ·rw[Zd _ _ _ _ (fun e=>l10 e.symm)];exact hG
  have qxI:Hid (∀(b:Bool)(w5:World),w5=(w4.setCell ⟨G,0,none⟩ (.bool b)).setCell ⟨g,a,none⟩ (.slice A4 qu c4)->¬ qu<=4096->iv w g S K G lo C n k gr (Ew k sets ((a:Int),r)) (.returned (.bool false)) w5):=by
   rintro b w5 rfl hle;refine⟨((HB4.o.mono hCw).setCell l3 _).setCell l1 _,?_⟩;rw[HGW.o,if_neg hle]
  have hans:n<=256:=hn;cases gr with
  |true =>
   by_cases hle:qu<=4096
   ·have ji:decide ((qu:Int)<=4096)=true:=by rw[Yj];omega
    go_wp2_with fail;go_ret;exact Mg.o true _ rfl hle rfl
   ·have ji:decide ((qu:Int)<=4096)=false:=by rw[Yk];omega
    go_wp2_with fail;go_ret;exact qxI.o true _ rfl hle
  |false =>
   by_cases Ji:qo<qu
   ·have qyS:decide (qo<qu)=true:=Yv Ji;by_cases hle:qu<=4096
    ·have ji:decide ((qu:Int)<=4096)=true:=by rw[Yj];omega
     go_wp2_with fail;go_ret;exact Mg.o true _ rfl hle (by rw[qyS];rfl)
    ·have ji:decide ((qu:Int)<=4096)=false:=by rw[Yk];omega
     go_wp2_with fail;go_ret;exact qxI.o true _ rfl hle
   ·have qyS:decide (qo<qu)=false:=Yw Ji;have hle:qu<=4096:=by have:=HOB.o.2;have:=HQO.o;omega
    have ji:decide ((qu:Int)<=4096)=true:=by rw[Yj];omega
    go_wp2_with fail;go_ret;exact Mg.o false _ rfl hle (by rw[qyS];rfl)
def Cr(k:Int)(g:Kc):Prop:=k<1\/4<k\/Kb g≠0
def qbH(w':World)(o:Option Zw)(e:Ending):Prop :=
 match o with
 |none=>e=.returned (.tuple #[.slice none 0 0,.int .i64 21])
 |some s=>∃ A c,e=.returned (.tuple #[.slice A s.length c,.int .i64 0])/\Je (Th eW) w' w'.heap.size (.slice A s.length c) s/\Dr s
def qpL(k:Int)(g:Kc)(w:World)(e:Ending)(w':World):Prop :=
 Below w.heap.size w w'/\(Cr k g->e=.returned (.tuple #[.slice none 0 0,.int .i64 1]))/\(¬ Cr k g->∃ o,Fx k g.2.2 g.1.length o/\qbH w' o e)
theorem If{g:Kc}(h:Kb g=0):Uj g=true/\wI g/\wellE g.1.length g.2.1.length g.2.2=0:=by
 unfold Kb at h;cases hv:Uj g with
 |false=>rw[hv] at h;cases h
 |true=>rw[hv] at h;exact⟨rfl,Wu hv,h⟩
theorem fA{A1 A2 A3:Option Addr}{n m q c1 c2 c3:Nat}{g:Kc}(k:Int)(w:World)(h:Nb w w.heap.size A1 A2 A3 n m q c1 c2 c3 g) :
  Calls Tryz.prog 90 #[Ri A1 A2 A3 n m q c1 c2 c3,.int .i64 k] w (qpL k g w):=by
 have hb1:=(Xr w.heap.size w).alloc (Ya _) (.cells #[.slice A1 n c1,.slice A2 m c2,.slice A3 q c3] 25);have z1:=Xs w (.cells #[.slice A1 n c1,.slice A2 m c2,.slice A3 q c3] 25);have k1:=Xn w (.cells #[.slice A1 n c1,.slice A2 m c2,.slice A3 q c3] 25);have Ja:=(Xr _ (w.alloc (.cells #[.slice A1 n c1,.slice A2 m c2,.slice A3 q c3] 25))).alloc (Ya _) (.cells #[.int .i64 k] 3);have z2:=Xs (w.alloc (.cells #[.slice A1 n c1,.slice A2 m c2,.slice A3 q c3] 25)) (.cells #[.int .i64 k] 3);have k2:=Fu w (.cells #[.slice A1 n c1,.slice A2 m c2,.slice A3 q c3] 25) (.cells #[.int .i64 k] 3);have HB:=Lh (hb1.trans (Ja.mono (by rw[z1];omega)));have HZ:=Lh (z2.trans (by rw[z1]));have H_:=Lh ((Ja.block w.heap.size (by rw[z1];omega)).trans k1);have HKK:=Lh k2;have HV:=Lh (h.fut HB.o (Ya _) (Ya _));have HL:=Lh h.ln;have wN:=h.small;have c1':((w.alloc (.cells #[.slice A1 n c1,.slice A2 m c2,.slice A3 q c3] 25)).alloc (.cells #[.int .i64 k] 3)).cell? ⟨w.heap.size+1,0,none⟩=some (.int .i64 k):=Xc HKK.o rfl;have g0:((w.alloc (.cells #[.slice A1 n c1,.slice A2 m c2,.slice A3 q c3] 25)).alloc (.cells #[.int .i64 k] 3)).cell? ⟨w.heap.size,0,none⟩=some (.slice A1 n c1):=Xc H_.o rfl;have g1:((w.alloc (.cells #[.slice A1 n c1,.slice A2 m c2,.slice A3 q c3] 25)).alloc (.cells #[.int .i64 k] 3)).cell? ⟨w.heap.size,1,none⟩=some (.slice A2 m c2):=Xc H_.o rfl;have g2:((w.alloc (.cells #[.slice A1 n c1,.slice A2 m c2,.slice A3 q c3] 25)).alloc (.cells #[.int .i64 k] 3)).cell? ⟨w.heap.size,2,none⟩=some (.slice A3 q c3):=Xc H_.o rfl;clear h hb1 z1 k1 Ja z2 k2;by_cases Iu:k<1
 ·have Rw:=Lt (Cr k g) (.inl Iu);go_enter Tryz.func90,Tryz.ntmps90;go_wp2_with fail
  go_step3
  go_wp2_with fail
  try rw[Exit.noGoto_ret]
  go_ret2
  exact⟨HB.o,fun _=>rfl,fun h=>absurd Rw.o h⟩
 by_cases yo:4<k
 ·have Rw:=Lt (Cr k g) (.inr (.inl yo));go_enter Tryz.func90,Tryz.ntmps90;go_wp2_with fail
  go_step3
  go_wp2_with fail
  try rw[Exit.noGoto_ret]
  go_ret2
  exact⟨HB.o,fun _=>rfl,fun h=>absurd Rw.o h⟩
 obtain⟨kk,hkk⟩:∃ kk:Nat,k=(kk:Int):=⟨k.toNat,by omega⟩;subst hkk;have hkd1:decide ((kk:Int)<1)=false:=by rw[Yk];omega
 have hkd4:decide (4<(kk:Int))=false:=by rw[Yk];omega
 go_enter Tryz.func90,Tryz.ntmps90;go_wp2_with fail
 go_step3
 go_wp2_with fail;generalize (w.alloc (.cells #[.slice A1 n c1,.slice A2 m c2,.slice A3 q c3] 25)).alloc (.cells #[.int .i64 kk] 3)=w1 at *;refine (mY w1 (HV.o.fut (N:=w1.heap.size) (B':=w1.heap.size) (Xr _ _) (by rw[HZ.o];omega) (by rw[HZ.o];omega))).mono ?_;rintro e w2 ⟨rfl,Ja⟩;have HB2:=Lh (HB.o.trans (Ja.mono (by rw[HZ.o];omega)));have HB12:=Lt (Below (w.heap.size+2) w1 w2) (Ja.mono (Yi HZ.o.symm));by_cases Vh:Kb g=0
 rotate_left
 ·have Rw:=Lt (Cr kk g) (.inr (.inr Vh));have hcb:(Kb g==0)=false:=by rw[Yo];exact Vh
  clear Vh;go_wp2_with fail
  try rw[Exit.noGoto_ret]
  go_ret2
  exact⟨HB2.o,fun _=>rfl,fun h=>absurd Rw.o h⟩
 ·have ziA:=Lt (¬ Cr kk g) (fun h=>by rcases h with h | h | h;omega;omega;exact h Vh);have iq:=Lh (If Vh);rw[Vh];have zbH:=Lh ((HB12.o.block w.heap.size (by omega)).trans H_.o);have zbG:=Lh ((HB12.o.block (w.heap.size+1) (by omega)).trans HKK.o);have HZ2:=Lh (show w.heap.size+2<=w2.heap.size by have:=Ja.size;rw[HZ.o] at this;exact this);have HN:=Lh (show 1<=n/\n<=256 by have h1:=iq.o.2.1.n1;have h2:=iq.o.2.1.nm;have:=HL.o.1;omega);have g0:w2.cell? ⟨w.heap.size,0,none⟩=some (.slice A1 n c1):=Xc zbH.o rfl;have qL:=yQ n (by have:=HN.o;omega) w2;have iD:=Lh (Xn w2 (.cells (List.replicate n (Value.slice none 0 0)).toArray 22));have wU:=Lh (Xs w2 (.cells (List.replicate n (Value.slice none 0 0)).toArray 22));have HB3:=Lh ((Xr w2.heap.size w2).alloc (Ya _) (.cells (List.replicate n (Value.slice none 0 0)).toArray 22));obtain⟨w3,xu⟩:=Xe (w2.alloc (.cells (List.replicate n (Value.slice none 0 0)).toArray 22));rw[<-xu] at qL iD wU HB3;obtain⟨gr,Lz⟩:=Xe w2.heap.size;rw[<-Lz] at qL iD wU;have HGR:=Lh Lz;clear Vh Ja xu Lz;go_wp2_with fail
  go_step3
  go_wp2_with fail;have qsP:(w3.alloc (.cells #[.slice (some ⟨gr,0,none⟩) n n] 76)).heap.size=w3.heap.size+1:=Xs _ _;have hb4:Below w3.heap.size w3 ((w3.alloc (.cells #[.slice (some ⟨gr,0,none⟩) n n] 76)).alloc (.cells #[.bool false] 4)):=((Xr _ _).alloc (Ya _) _).alloc (by rw[qsP];omega) _;have hZ4:((w3.alloc (.cells #[.slice (some ⟨gr,0,none⟩) n n] 76)).alloc (.cells #[.bool false] 4)).heap.size=w3.heap.size+2:=by rw[Xs,qsP]
  have hS4:((w3.alloc (.cells #[.slice (some ⟨gr,0,none⟩) n n] 76)).alloc (.cells #[.bool false] 4)).heap[w3.heap.size]? = some (.cells #[.slice (some ⟨gr,0,none⟩) n n] 76 (0,0)):=by
   rw[Ze _ _ _ (by rw[qsP];omega)];exact Xn w3 _
  have hG4:=Fu w3 (.cells #[.slice (some ⟨gr,0,none⟩) n n] 76) (.cells #[.bool false] 4);have HST:=Lt (Rs ((w3.alloc (.cells #[.slice (some ⟨gr,0,none⟩) n n] 76)).alloc (.cells #[.bool false] 4)) gr w3.heap.size (w.heap.size+1) (w3.heap.size+1) (w3.heap.size+2) (w.heap.size+2) n kk (List.replicate n []) false) (by
   have hgr2:=HGR.o
   have Sc:=HZ2.o
   have hz3:=wU.o
   refine⟨Ef.start ((hb4.block gr (by rw[hz3];omega)).trans iD.o),by simp,Dr.replicate n,Uv.replicate n,hS4,(hb4.block _ (by rw[hz3];omega)).trans ((HB3.o.block _ (by omega)).trans zbG.o),hG4,by omega,by omega,by omega,by omega,by omega,by omega,by omega,by rw[hZ4];omega,by omega,by omega,by omega⟩)
  have HBW:=Lt (Below (w.heap.size+2) w1 ((w3.alloc (.cells #[.slice (some ⟨gr,0,none⟩) n n] 76)).alloc (.cells #[.bool false] 4))) ((HB12.o.trans (HB3.o.mono HZ2.o)).trans (hb4.mono (by have:=wU.o;have:=HGR.o;have:=HZ2.o;omega)));have HS3:=Lh (show w.heap.size+2<=w3.heap.size by have:=wU.o;have:=HGR.o;have:=HZ2.o;omega);clear qsP hb4 hZ4 hS4 hG4 qL;obtain⟨s3,hs3⟩:=Xe w3.heap.size;rw[<-hs3] at HST HS3 |-;generalize (w3.alloc (.cells #[.slice (some ⟨gr,0,none⟩) n n] 76)).alloc (.cells #[.bool false] 4)=w4 at *;clear hs3;go_loopg [] (4096*n) (fun gas wr=>∃(sets:Zw)(b:Bool),Hid (Rs wr gr s3 (w.heap.size+1) (s3+1) (s3+2) (w.heap.size+2) n kk sets b)/\Hid (∀ o,RoundsTo (Mj kk g.2.2) sets o->Fx kk g.2.2 n o)/\Hid (4096*n<=gas+Oq sets)/\Hid (Below (w.heap.size+2) w1 wr));exact⟨List.replicate n [],false,HST.o,fun o h=>h,Nat.le_add_right _ _,HBW.o⟩;clear HST HBW g0;obtain⟨sets,b,HST,HRO,HGAS,HBW⟩:=hrel;obtain⟨gas,Gf⟩:=Xe gk;rw[<-Gf] at HGAS;have HGK:=Lh Gf;clear Gf;have cG:=Vo HST.o.bG;have fG:wr.frozen? ⟨s3+1,0,none⟩=false:=by simp[World.frozen?,HST.o.bG]
  have kg:=(HBW.o.block w.heap.size (by omega)).trans H_.o;have g0:wr.cell? ⟨w.heap.size,0,none⟩=some (.slice A1 n c1):=Xc kg rfl;have g2':wr.cell? ⟨w.heap.size,2,none⟩=some (.slice A3 q c3):=Xc kg rfl;have hne:w.heap.size≠s3+1:=by have:=HS3.o;omega
  have HST0:=Lh (HST.o.setG false);have HB0:=Lt (Below (w.heap.size+2) w1 (wr.setCell ⟨s3+1,0,none⟩ (.bool false))) (Below.setCell (p:=⟨s3+1,0,none⟩) HBW.o (by show w.heap.size+2<=s3+1;have:=HS3.o;omega) _);clear kg;go_wp2_with fail;go_loopg [30] q (fun left v30 wt=>∃(j:Nat)(sets':Zw)(b':Bool),j<=q/\q - j<=left/\v30=.int .i64 j/\Hid (Rs wt gr s3 (w.heap.size+1) (s3+1) (s3+2) (w.heap.size+2) n kk sets' b')/\Hid (Mj kk g.2.2 sets=Gc kk (g.2.2.drop j) (sets',b'))/\Hid (Oq sets<=Oq sets'/\(b'=true->Oq sets<Oq sets'))/\Hid (Below (w.heap.size+2) w1 wt));exact⟨0,sets,false,by omega,by omega,rfl,HST0.o,rfl,⟨Ya _,fun h=>by cases h⟩,HB0.o⟩;clear HST0 HB0 cG fG g0 g2' HST HBW;obtain⟨j,sets',b',hj,Dp,rfl,HST,HRW,HTOT,HBW⟩:=hrel;by_cases hjq:j<q
  ·have Mn:j<g.2.2.length:=by rw[<-HL.o.2.2];exact hjq
   have wG:=Lh (HV.o.rules.below (HBW.o.mono (by omega)));obtain⟨bb,off,cs,rfl,_,pM,Zx,Zm⟩:=wG.o.get (k:=j) Mn (by decide);obtain⟨v,rfl,Mi,xP,pG⟩:=Kq Zx;obtain⟨A5,c5,rfl,Ic,kX⟩:=Mi.form;have Vh:=Zm 0 _ rfl;have Nj:=Zm 1 _ rfl;simp only[show Vv.size=2 from rfl,Yp,<-Yx] at Vh Nj;have Lb:=Lh (show Mj kk g.2.2 sets=(Ew kk sets' g.2.2[j]).bind fun t=>Gc kk (g.2.2.drop (j+1)) (t.1,b'||t.2) by rw[HRW.o,Ql Mn];rfl);have Ev:=iq.o.2.1.fit _ (Qg Mn);obtain⟨r,hr⟩:=Xe (g.2.2[j]);rw[<-hr] at Vh Nj Lb Mi xP pG Ic Ev;obtain⟨r1,r2⟩:=r;obtain⟨a,rfl⟩:∃ a:Nat,r1=(a:Int):=⟨r1.toNat,by have:=Ev.1;simp only at this;omega⟩;simp only at Vh Nj Mi Ic Ev pG;obtain⟨ql,ou⟩:=Xe r2.length;rw[<-ou] at Nj Mi Ic;have HQL:=Lh ou;have HSL:=Lh Mi;have han:a<n:=by have:=Ev.2.1;have:=HL.o.1;omega
   clear Zm Zx hr ou Mi Mn HRW Ev xP;go_wp2_with fail;have Mo:=(Xr wr.heap.size wr).alloc (Ya _) (.cells #[.int .i64 a,.slice A5 ql c5] 63);have HST1:=Lh (HST.o.below Mo);have HBX:=Lh Mo;have HWS:=Lh (show w.heap.size+2<=wr.heap.size by have:=HST.o.le;omega);refine (qfJ _ gr s3 (w.heap.size+1) (s3+1) (s3+2) (w.heap.size+2) n kk w.heap.size sets' b' a r2 A5 ql c5 HST1.o (by omega) (by omega) han HN.o.2 HQL.o (HSL.o.below (HBX.o.mono (by have:=HWS.o;omega))) (by rw[Xs];have:=HWS.o;omega)).mono ?_;rintro e w6 ⟨hb6,he⟩;have HB6:=Lh (HBW.o.trans ((HBX.o.mono HWS.o).trans hb6));clear Mo hb6;cases ho:Ew (kk:Int) sets' ((a:Int),r2) with
   |none =>
    rw[ho] at he;subst he;have ziP:=Lh (HRO.o none (.fail (by rw[Lb.o,ho];rfl)));clear ho;go_wp2_with fail
    try rw[Exit.noGoto_ret]
    go_ret2
    exact⟨HB.o.trans (HB6.o.mono (by omega)),fun h=>absurd h ziA.o,fun _=>⟨none,by rw[<-HL.o.1];exact ziP.o,rfl⟩⟩
   |some t =>
    obtain⟨s',g'⟩:=t;rw[ho] at he;obtain⟨rfl,hst⟩:=he;have HST6:=Lh hst;have HRW6:=Lh (show Mj kk g.2.2 sets=Gc kk (g.2.2.drop (j+1)) (s',b'||g') by rw[Lb.o,ho];rfl);have HTOT6:=Lh (show Oq sets<=Oq s'/\((b'||g')=true->Oq sets<Oq s') by
     obtain⟨_,_,_,t4,t5⟩:=qtO (by omega) HST.o.small HST.o.asc (by simp only[Yy];rw[HST.o.len];exact han) ho
     have h1:=HTOT.o
     refine⟨by omega,fun h=>?_⟩
     rw[Yt] at h
     rcases h with h | h
     ·have:=h1.2 h;omega
     ·have:=t5 h;omega)
    clear ho hst;go_wp2_with fail;go_roundg (gk - 1);exact⟨j+1,s',b'||g',by omega,by omega,by go_num,HST6.o,HRW6.o,HTOT6.o,HB6.o⟩;omega
  ·have zhQ:=Lh (show Mj kk g.2.2 sets=some (sets',b') by
    rw[HRW.o,show j=g.2.2.length by rw[<-HL.o.2.2];omega,List.drop_length];rfl)
   have cG:=Vo HST.o.bG;have cS:=Vo HST.o.bS;clear HRW;cases b' with
   |false =>
    have HFT:=Lh (HRO.o (some sets') (.done zhQ.o));have HSL:=Lh (HST.o.row.sl (by rw[HST.o.len];have:=HN.o;unfold maxLen;omega));go_wp2_with fail
    try rw[Exit.noGoto_ret]
    go_ret2
    refine⟨HB.o.trans (HBW.o.mono (by omega)),fun h=>absurd h ziA.o,fun _=>⟨some sets',by rw[<-HL.o.1];exact HFT.o,some ⟨gr,0,none⟩,sets'.length,?_,HSL.o,HST.o.small⟩⟩;rw[HST.o.len];rfl
   |true =>
    have HMORE:=Lh (fun(o:Option Zw)(h:RoundsTo (Mj kk g.2.2) sets' o)=>HRO.o o (.more zhQ.o h));have htl:=tf sets' HST.o.small;rw[HST.o.len] at htl;have HTL:=Lh htl;clear htl;go_wp2_with fail;go_roundg (gas - 1);exact⟨sets',true,HST.o,HMORE.o,(show 4096*n<=gas - 1+Oq sets' by have h2:=HTOT.o.2 trivial;have h4:=HGAS.o;omega),HBW.o⟩;have h1:=HGK.o;have h2:=HTOT.o.2 trivial;have h3:=HTL.o;have h4:=HGAS.o;omega
theorem Je.dropI{w:World}{B:Nat}{A:Option Addr}{n c:Nat}{xs:List Int}(h:Je Wo w B (.slice A n c) xs)(p:Nat)(hp:p<=n):Je Wo w B (.slice (if c=p then A else A.map (·.add p)) (xs.drop p).length (c - p)) (xs.drop p):=by
 obtain⟨A',c',css,e,h1,h2,h3,h4,h5⟩:=h;injection e with e1 e2 e3;subst e1 e2 e3;have hfl:∀(cs:List (List Value)),(∀ x∈cs,x.length=1)->∀ q,(cs.drop q).flatten=cs.flatten.drop q:=by
  intro cs
  induction cs with
  |nil=>intro _ q;simp
  |cons x l ih =>
   intro hx q;cases q with
   |zero=>rfl
   |succ q =>
    rw[Xx,ih (fun y hy=>hx y (by simp[hy])) q,List.flatten_cons];have h1:=hx x (by simp);obtain⟨y,rfl⟩:=List.length_eq_one_iff.1 h1;rfl
 have yb:∀ x∈css,x.length=1:=Je.lens (E:=Wo) h3 h5;have hlen:css.flatten.length=css.length:=by
  have:∀(cs:List (List Value)),(∀ x∈cs,x.length=1)->cs.flatten.length=cs.length:=by
   intro cs
   induction cs with
   |nil=>intro _;rfl
   |cons x l ih=>intro hx;rw[List.flatten_cons,Qe,ih (fun y hy=>hx y (by simp[hy])),hx x (by simp),Qu];omega
  exact this css yb
 refine⟨_,_,css.drop p,rfl,by rw[Xj];omega,by omega,by rw[Xj,Xj,h3],?_,fun i cs x hc hx=>?_⟩
 ·rw[hfl css yb p];exact h4.drop_ p (fun Ji=>by omega)
 ·rw[List.getElem?_drop] at hc hx;exact h5 _ cs x hc hx
def qhI(w:World)(o:Option (List Wd))(e:Ending)(w':World):Prop :=
 Below w.heap.size w w'/\match o with
 |none=>e=.returned (.tuple #[.slice none 0 0,.bool false])
 |some x=>∃ v,e=.returned (.tuple #[v,.bool true])/\w'.ownsRow w.heap.size 9 1 v x.length (Jf x)
theorem vF(A1 A2 A:Option Addr)(c1 c2 c q n n2 k a p:Nat)(sets fol:Zw)(r:List Int)(w:World)(Iu:1<=k)(iH:k<=4)(h1:Je (Th eW) w w.heap.size (.slice A1 n c1) sets)(h2:Je (Th eW) w w.heap.size (.slice A2 n2 c2) fol)(hr:Je Wo w w.heap.size (.slice A q c) r)(hq:q<=64)(hp:p<=q)(ha:a<n2)(hs:qbF sets)(hf:qbF fol) :
  Calls Tryz.prog 91 #[.slice A1 n c1,.slice A2 n2 c2,.int .i64 k,yW a A q c,.int .i64 ((p:Int) - 1)] w (qhI w (Kg sets fol k ((a:Int),r) ((p:Int) - 1))):=by
 have hqn:=hr.n_eq;have yf:=h1.n_eq;have zfC:=h2.n_eq;have Mo:=(Xr w.heap.size w).alloc (Ya _) (.cells #[.int .i64 a,.slice A q c] 63);have HW:Hid (Kg sets fol k ((a:Int),r) ((p:Int) - 1)=(lZ sets k (r.drop p)).bind fun x=>Ea k x (fol.getD a [])):=by
  show _=_;unfold Kg;simp only;rw[if_neg (by omega),show (((p:Int) - 1)+1).toNat=p by omega,Yy]
 have hof:=oS A1 (if c=p then A else A.map (·.add p)) c1 (c - p) k sets (r.drop p) (w.alloc (.cells #[.int .i64 a,.slice A q c] 63)) Iu iH (by rw[<-yf];exact h1.fut Mo (Ya _) Mo.size) ((hr.fut Mo (Ya _) Mo.size).dropI p hp) hs
 rw[<-yf,Xj,<-hqn] at hof;have nI:=Lh hof;have ziN:=Lh h2;have HF:=Lh hf;have HBX:=Lh Mo;have HZ:=Lh (Xs w (.cells #[.int .i64 a,.slice A q c] 63));have HK:=Lh (Xn w (.cells #[.int .i64 a,.slice A q c] 63));have Ci:=Lh zfC;have hcq:=hr.n_le;have jR:decide (((p:Int) - 1) < -1)=false:=by rw[Yk];omega
 have jQ:decide ((q:Int)<=(p:Int) - 1)=false:=by rw[Yk];omega
 have hd3:decide ((a:Int)<0)=false:=by rw[Yk];omega
 have hd4:decide ((n2:Int)<=(a:Int))=false:=by rw[Yk];omega
 have hpp:((p:Int) - 1)+1=p:=by omega
 clear h1 h2 hr hs hf Mo hof hqn yf zfC;by_cases hcp:c=p
 ·rw[if_pos hcp] at nI;have Vh:c - p=0:=by omega
  have hq0:q - p=0:=by omega
  rw[Vh,hq0] at nI;clear Vh hq0;subst hcp;go_enter Tryz.func91,Tryz.ntmps91;go_wp2_with fail;generalize w.alloc (.cells #[.int .i64 a,.slice A q c] 63)=w1 at *;refine nI.o.mono ?_;rintro e w2 ⟨Ja,he⟩;have HB2:=Lh (HBX.o.trans (Ja.mono (by rw[HZ.o];omega)));have HK2:=Lh ((Ja.block w.heap.size (by rw[HZ.o];omega)).trans HK.o);clear Ja nI;cases ho:lZ sets (k:Int) (r.drop c) with
  |none =>
   rw[ho] at he;subst he;have HN:=Lh (show Kg sets fol k ((a:Int),r) ((c:Int) - 1)=none by rw[HW.o,ho];rfl);clear ho;go_wp2_with fail
   go_ret2
   refine⟨HB2.o,?_⟩;rw[HN.o];rfl
  |some x =>
   rw[ho] at he;obtain⟨Ax,cx,rfl,Ab⟩:=he;have HX:=Lh (x_ iH ho);have HWX:=Lh (show Kg sets fol k ((a:Int),r) ((c:Int) - 1)=Ea k x (fol.getD a []) by rw[HW.o,ho];rfl);have jn:=Lh Ab;have Or:a<fol.length:=by rw[<-Ci.o];exact ha
   obtain⟨b,off,A9,c9,rfl,_,pM,Zm,Mi,h5,h6⟩:=(ziN.o.fut HB2.o (Ya _) HB2.o.size).row1 Or;have HFS:=Lh (HF.o a _ (Qa Or));have qA:=Lh (show fol.getD a []=fol[a] by rw[Qb,Qa Or];rfl);obtain⟨f,hf⟩:=Xe (fol[a]);rw[<-hf] at Zm Mi h5 HFS qA;have pL:=aM k Ax A9 cx c9 x f w2 Iu iH jn.o Mi HX.o.1 HFS.o.1 (by
    have e1:=HX.o.2;have e2:=HFS.o.2
    exact Yb (Nat.mul_le_mul e1 e2) (by decide))
   obtain⟨qx,ot⟩:=Xe x.length;obtain⟨qf,hqf⟩:=Xe f.length;rw[<-ot,<-hqf] at pL;rw[<-ot];rw[<-hqf] at Zm h5;have zbP:=Lh pL;have c0:w2.cell? ⟨w.heap.size,0,none⟩=some (.int .i64 a):=Xc HK2.o rfl;clear ho Ab Or Mi hf ot hqf pL;go_wp2_with fail;refine zbP.o.mono ?_;rintro e w3 ⟨hb3,he⟩;have HB3:=Lh (HB2.o.trans (hb3.mono HB2.o.size));rw[qA.o] at HWX;clear hb3;cases h2:Ea (k:Int) x f with
   |none =>
    rw[h2] at he;subst he;have HN:=Lh (show Kg sets fol k ((a:Int),r) ((c:Int) - 1)=none by rw[HWX.o,h2]);clear h2;go_wp2_with fail
    go_ret2
    refine⟨HB3.o,?_⟩;rw[HN.o];rfl
   |some z =>
    rw[h2] at he;obtain⟨v,rfl,hown⟩:=he;have HS:=Lh (show Kg sets fol k ((a:Int),r) ((c:Int) - 1)=some z by rw[HWX.o,h2]);have HO:=Lh (Fr hown HB2.o.size);obtain⟨A8,c8,rfl,_,_⟩:=Zo hown;clear h2 hown;go_wp2_with fail
    go_ret2
    refine⟨HB3.o,?_⟩;rw[HS.o];exact⟨_,rfl,HO.o⟩
 ·rw[if_neg hcp] at nI;go_enter Tryz.func91,Tryz.ntmps91;go_wp2_with fail;generalize w.alloc (.cells #[.int .i64 a,.slice A q c] 63)=w1 at *;refine nI.o.mono ?_;rintro e w2 ⟨Ja,he⟩;have HB2:=Lh (HBX.o.trans (Ja.mono (by rw[HZ.o];omega)));have HK2:=Lh ((Ja.block w.heap.size (by rw[HZ.o];omega)).trans HK.o);clear Ja nI;cases ho:lZ sets (k:Int) (r.drop p) with
  |none =>
   rw[ho] at he;subst he;have HN:=Lh (show Kg sets fol k ((a:Int),r) ((p:Int) - 1)=none by rw[HW.o,ho];rfl);clear ho;go_wp2_with fail
   go_ret2
   refine⟨HB2.o,?_⟩;rw[HN.o];rfl
  |some x =>
   rw[ho] at he;obtain⟨Ax,cx,rfl,Ab⟩:=he;have HX:=Lh (x_ iH ho);have HWX:=Lh (show Kg sets fol k ((a:Int),r) ((p:Int) - 1)=Ea k x (fol.getD a []) by rw[HW.o,ho];rfl);have jn:=Lh Ab;have Or:a<fol.length:=by rw[<-Ci.o];exact ha
   obtain⟨b,off,A9,c9,rfl,_,pM,Zm,Mi,h5,h6⟩:=(ziN.o.fut HB2.o (Ya _) HB2.o.size).row1 Or;have HFS:=Lh (HF.o a _ (Qa Or));have qA:=Lh (show fol.getD a []=fol[a] by rw[Qb,Qa Or];rfl);obtain⟨f,hf⟩:=Xe (fol[a]);rw[<-hf] at Zm Mi h5 HFS qA;have pL:=aM k Ax A9 cx c9 x f w2 Iu iH jn.o Mi HX.o.1 HFS.o.1 (by
    have e1:=HX.o.2;have e2:=HFS.o.2
    exact Yb (Nat.mul_le_mul e1 e2) (by decide))
   obtain⟨qx,ot⟩:=Xe x.length;obtain⟨qf,hqf⟩:=Xe f.length;rw[<-ot,<-hqf] at pL;rw[<-ot];rw[<-hqf] at Zm h5;have zbP:=Lh pL;have c0:w2.cell? ⟨w.heap.size,0,none⟩=some (.int .i64 a):=Xc HK2.o rfl;clear ho Ab Or Mi hf ot hqf pL;go_wp2_with fail;refine zbP.o.mono ?_;rintro e w3 ⟨hb3,he⟩;have HB3:=Lh (HB2.o.trans (hb3.mono HB2.o.size));rw[qA.o] at HWX;clear hb3;cases h2:Ea (k:Int) x f with
   |none =>
    rw[h2] at he;subst he;have HN:=Lh (show Kg sets fol k ((a:Int),r) ((p:Int) - 1)=none by rw[HWX.o,h2]);clear h2;go_wp2_with fail
    go_ret2
    refine⟨HB3.o,?_⟩;rw[HN.o];rfl
   |some z =>
    rw[h2] at he;obtain⟨v,rfl,hown⟩:=he;have HS:=Lh (show Kg sets fol k ((a:Int),r) ((p:Int) - 1)=some z by rw[HWX.o,h2]);have HO:=Lh (Fr hown HB2.o.size);obtain⟨A8,c8,rfl,_,_⟩:=Zo hown;clear h2 hown;go_wp2_with fail
    go_ret2
    refine⟨HB3.o,?_⟩;rw[HS.o];exact⟨_,rfl,HO.o⟩
def oY(M:Nat)(s:Zw):Prop:=∀(i:Nat)(x:List Wd),s[i]? = some x->Dj x/\x.length<=M
theorem oY.mono{M M':Nat}{s:Zw}(h:oY M s)(hM:M<=M'):oY M' s:=fun i x hx=>⟨(h i x hx).1,Yb (h i x hx).2 hM⟩
theorem oY.set{M:Nat}{s:Zw}(h:oY M s)(a:Nat){u:List Wd}(hu:Dj u/\u.length<=M):oY M (s.set a u):=by
 intro b y hy;rw[Xv] at hy;split at hy
 ·split at hy
  ·injection hy with hy;subst hy;exact hu
  ·cases hy
 ·exact h b y hy
structure wJ where
 g:Nat
 SB:Nat
 FB:Nat
 KB:Nat
 LB:Nat
 GB:Nat
 lo:Nat
 e0:Nat
 C:Nat
 N0:Nat
 A1:Option Addr
 n1:Nat
 c1:Nat
 n:Nat
structure Fo(a:wJ)(k:Nat)(sets:Zw)(w:World)(p:En)(M:Nat):Prop where
 row:Ef 22 a.g a.lo a.e0 w p.fol
 len:p.fol.length=a.n
 small:oY M p.fol
 asc:Uv p.fol
 bS:w.heap[a.SB]? = some (.cells #[.slice a.A1 a.n1 a.c1] 76 (0,0))
 bF:w.heap[a.FB]? = some (.cells #[.slice (some ⟨a.g,0,none⟩) a.n a.n] 76 (0,0))
 bK:w.heap[a.KB]? = some (.cells #[.int .i64 k] 3 (0,0))
 bL:w.heap[a.LB]? = some (.cells #[.bool p.limit] 4 (0,0))
 bG:w.heap[a.GB]? = some (.cells #[.bool p.grown] 4 (0,0))
 sets:Je (Th eW) w a.N0 (.slice a.A1 a.n1 a.c1) sets
 le:(a.C<=a.g/\a.C<=a.FB/\a.C<=a.LB/\a.C<=a.GB/\a.SB<a.C/\a.KB<a.C/\a.N0<=a.C)/\(a.g<a.lo/\a.FB<a.lo/\a.LB<a.lo/\a.GB<a.lo/\a.lo<=w.heap.size)/\(a.g≠a.e0/\a.FB≠a.e0/\a.LB≠a.e0/\a.GB≠a.e0)/\(a.g≠a.FB/\a.g≠a.LB/\a.g≠a.GB/\a.FB≠a.LB/\a.FB≠a.GB/\a.LB≠a.GB)
theorem Fo.below{a:wJ}{k:Nat}{sets:Zw}{w w':World}{p:En}{M:Nat}(h:Fo a k sets w p M)(hb:Below w.heap.size w w'):Fo a k sets w' p M:=by
 obtain⟨⟨l1,l2,l3,l4,l5,l6,l7⟩,⟨m1,m2,m3,m4,m5⟩,l8,l9⟩:=h.le;exact⟨h.row.below hb,h.len,h.small,h.asc,(hb.block _ (by omega)).trans h.bS,(hb.block _ (by omega)).trans h.bF,(hb.block _ (by omega)).trans h.bK,(hb.block _ (by omega)).trans h.bL,(hb.block _ (by omega)).trans h.bG,h.sets.below (hb.mono (by omega)),⟨l1,l2,l3,l4,l5,l6,l7⟩,⟨m1,m2,m3,m4,Yb m5 hb.size⟩,l8,l9⟩
theorem Fo.setL{a:wJ}{k:Nat}{sets:Zw}{w:World}{p:En}{M:Nat}(h:Fo a k sets w p M)(b:Bool):Fo a k sets (w.setCell ⟨a.LB,0,none⟩ (.bool b)) ⟨p.fol,p.grown,b⟩ M:=by
 obtain⟨⟨l1,l2,l3,l4,l5,l6,l7⟩,⟨m1,m2,m3,m4,m5⟩,⟨o1,o2,o3,o4⟩,⟨d1,d2,d3,d4,d5,d6⟩⟩:=h.le;have hk:∀ j,j≠a.LB->(w.setCell ⟨a.LB,0,none⟩ (.bool b)).heap[j]? = w.heap[j]? := fun j hj=>Zd _ _ _ _ hj;have pg:Below a.N0 w (w.setCell ⟨a.LB,0,none⟩ (.bool b)):=Below.setCell (p:=⟨a.LB,0,none⟩) (Xr _ _) (by show a.N0<=a.LB;omega) _;exact⟨h.row.other _ d2 m3 o3,h.len,h.small,h.asc,(hk _ (by omega)).trans h.bS,(hk _ d4).trans h.bF,(hk _ (by omega)).trans h.bK,ft h.bL,(hk _ (fun e=>d6 e.symm)).trans h.bG,h.sets.below pg,⟨l1,l2,l3,l4,l5,l6,l7⟩,⟨m1,m2,m3,m4,by simpa[World.setCell] using m5⟩,⟨o1,o2,o3,o4⟩,⟨d1,d2,d3,d4,d5,d6⟩⟩
theorem Fo.setG{a:wJ}{k:Nat}{sets:Zw}{w:World}{p:En}{M:Nat}(h:Fo a k sets w p M)(b:Bool):Fo a k sets (w.setCell ⟨a.GB,0,none⟩ (.bool b)) ⟨p.fol,b,p.limit⟩ M:=by
 obtain⟨⟨l1,l2,l3,l4,l5,l6,l7⟩,⟨m1,m2,m3,m4,m5⟩,⟨o1,o2,o3,o4⟩,⟨d1,d2,d3,d4,d5,d6⟩⟩:=h.le;have hk:∀ j,j≠a.GB->(w.setCell ⟨a.GB,0,none⟩ (.bool b)).heap[j]? = w.heap[j]? := fun j hj=>Zd _ _ _ _ hj;have pg:Below a.N0 w (w.setCell ⟨a.GB,0,none⟩ (.bool b)):=Below.setCell (p:=⟨a.GB,0,none⟩) (Xr _ _) (by show a.N0<=a.GB;omega) _;exact⟨h.row.other _ d3 m4 o4,h.len,h.small,h.asc,(hk _ (by omega)).trans h.bS,(hk _ d5).trans h.bF,(hk _ (by omega)).trans h.bK,(hk _ d6).trans h.bL,ft h.bG,h.sets.below pg,⟨l1,l2,l3,l4,l5,l6,l7⟩,⟨m1,m2,m3,m4,by simpa[World.setCell] using m5⟩,⟨o1,o2,o3,o4⟩,⟨d1,d2,d3,d4,d5,d6⟩⟩
theorem Fo.setRow{a:wJ}{k:Nat}{sets:Zw}{w:World}{p:En}{M M':Nat}(h:Fo a k sets w p M){s:Nat}{v:Value}{u:List Wd}(hv:Hi a.lo a.e0 w v u)(hu:Dj u/\u.length<=M')(ha:qC u)(hM:M<=M'):Fo a k sets (w.setCell ⟨a.g,s,none⟩ v) ⟨p.fol.set s u,p.grown,p.limit⟩ M':=by
 obtain⟨⟨l1,l2,l3,l4,l5,l6,l7⟩,⟨m1,m2,m3,m4,m5⟩,⟨o1,o2,o3,o4⟩,⟨d1,d2,d3,d4,d5,d6⟩⟩:=h.le;have hk:∀ j,j≠a.g->(w.setCell ⟨a.g,s,none⟩ v).heap[j]? = w.heap[j]? := fun j hj=>Zd _ _ _ _ hj;have pg:Below a.N0 w (w.setCell ⟨a.g,s,none⟩ v):=Below.setCell (p:=⟨a.g,s,none⟩) (Xr _ _) (by show a.N0<=a.g;omega) _;exact⟨h.row.set m1 o1 hv,by rw[Qm];exact h.len,(h.small.mono hM).set s hu,h.asc.set s ha,(hk _ (by omega)).trans h.bS,(hk _ (fun e=>d1 e.symm)).trans h.bF,(hk _ (by omega)).trans h.bK,(hk _ (fun e=>d2 e.symm)).trans h.bL,(hk _ (fun e=>d3 e.symm)).trans h.bG,h.sets.below pg,⟨l1,l2,l3,l4,l5,l6,l7⟩,⟨m1,m2,m3,m4,by simpa[World.setCell] using m5⟩,⟨o1,o2,o3,o4⟩,⟨d1,d2,d3,d4,d5,d6⟩⟩
structure Hx(a:wJ)(w w':World):Prop where
 os:w'.os=w.os
 tape:w'.tape=w.tape
 output:w'.output=w.output
 size:w.heap.size<=w'.heap.size
 block:∀ b,b<w.heap.size->b≠a.g->b≠a.LB->b≠a.GB->w'.heap[b]? = w.heap[b]?
theorem Hx.of_below{a:wJ}{w w':World}(h:Below w.heap.size w w'):Hx a w w':=⟨h.os,h.tape,h.output,h.size,fun b hb _ _ _=>h.block b hb⟩
theorem Hx.set{a:wJ}{w w':World}(h:Hx a w w'){p:Addr}(v:Value)(hp:p.block=a.g\/p.block=a.LB\/p.block=a.GB):Hx a w (w'.setCell p v) :=
 ⟨h.os,h.tape,h.output,by simpa[World.setCell] using h.size,fun b hb h1 h2 h3=>(Zd _ _ _ _ (by rcases hp with e | e | e <;> rw[e] <;> assumption)).trans (h.block b hb h1 h2 h3)⟩
theorem Hx.below{a:wJ}{w w':World}{C:Nat}(h:Hx a w w')(hc:C<=w.heap.size)(h1:C<=a.g)(h2:C<=a.LB)(h3:C<=a.GB):Below C w w':=⟨h.os,h.tape,h.output,h.size,fun b hb=>h.block b (by omega) (by omega) (by omega) (by omega)⟩
theorem tq(a:wJ)(k M N la at_:Nat)(sets:Zw)(w:World)(p:En)(r:List Int)(A:Option Addr)(q c:Nat)(h:Fo a k sets w p M)(hB:Dr sets)(Iu:1<=k)(iH:k<=4)(hla:la<a.n)(hn:a.n<=256)(hq:q=r.length)(hq2:q<=64)(xS:at_<q)(Ev:∀ s∈r,s<(a.n:Int))(hr:Je Wo w N (.slice A q c) r)(hN:N<=w.heap.size)(hM:M<=549755813888) :
  Calls Tryz.prog 143 #[yW la A q c,.int .i64 at_,.pointer (some ⟨a.SB,0,none⟩),.pointer (some ⟨a.FB,0,none⟩),.pointer (some ⟨a.KB,0,none⟩),.pointer (some ⟨a.LB,0,none⟩),.pointer (some ⟨a.GB,0,none⟩)] w fun e w'=>e=.returned (.tuple #[])/\Fo a k sets w' (Vq sets k ((la:Int),r) at_ p) (M+4096)/\Hx a w w':=by
 have Mo:=(Xr w.heap.size w).alloc (Ya _) (.cells #[.int .i64 la,.slice A q c] 63);have mM:=h.below Mo;have HZ:=Lh (Xs w (.cells #[.int .i64 la,.slice A q c] 63));have HK:=Lh (Xn w (.cells #[.int .i64 la,.slice A q c] 63));have HH:=Lh h;have HBX:=Lh Mo;have hcw:a.C<=w.heap.size:=by have:=h.le;omega
 have zf:=vF a.A1 (some ⟨a.g,0,none⟩) A a.c1 a.n c q a.n1 a.n k la (at_+1) sets p.fol r (w.alloc (.cells #[.int .i64 la,.slice A q c] 63)) Iu iH (mM.sets.more (by rw[HZ.o];have:=h.le;omega)) (by have:=mM.row.sl (by rw[h.len];unfold maxLen;omega);rw[h.len] at this;exact this) (hr.fut Mo hN (by rw[HZ.o];omega)) hq2 (by omega) hla (fun i x hx=>by have:=hB i x hx;exact⟨this.1,by omega⟩) (fun i x hx=>by have:=h.small i x hx;exact⟨this.1,by omega⟩);rw[show (((at_+1:Nat):Int) - 1)=(at_:Int) by omega] at zf;have ziY:=Lh zf;have H1:=Lh mM;have HR:=Lh (hr.fut Mo hN (Ya _));have HRL:=Lh hq;have wH:=Lh Ev;have cS:=Vo mM.bS;have cF:=Vo mM.bF;have cK:=Vo mM.bK;have b0:(w.alloc (.cells #[.int .i64 la,.slice A q c] 63)).cell? ⟨w.heap.size,0,none⟩=some (.int .i64 la):=Xc HK.o rfl;have b1:(w.alloc (.cells #[.int .i64 la,.slice A q c] 63)).cell? ⟨w.heap.size,1,none⟩=some (.slice A q c):=Xc HK.o rfl;have ls1:a.SB<w.heap.size:=(gl h.bS);have ls2:a.FB<w.heap.size:=(gl h.bF);have ls3:a.KB<w.heap.size:=(gl h.bK);have dS:=Vo h.bS;have dF:=Vo h.bF;have dK:=Vo h.bK;clear h Mo mM zf hr hq Ev cS cF cK b0 b1;go_enter Tryz.func143,Tryz.ntmps143;go_wp2_with fail;clear dS dF dK ls1 ls2 ls3;generalize w.alloc (.cells #[.int .i64 la,.slice A q c] 63)=w1 at *;refine ziY.o.mono ?_;rintro e w2 ⟨Ja,he⟩;have HB2:=Lh (HBX.o.trans (Ja.mono (by rw[HZ.o];omega)));have HST2:=Lh (H1.o.below Ja);have HK2:=Lh ((Ja.block w.heap.size (by rw[HZ.o];omega)).trans HK.o);obtain⟨o,ho⟩:=Xe (Kg sets p.fol k ((la:Int),r) at_);rw[<-ho] at he;have HO:=Lh ho;have HR2:=Lh (HR.o.below (Ja.mono (by rw[HZ.o];omega)));clear Ja ziY ho;have b0:w2.cell? ⟨w.heap.size,0,none⟩=some (.int .i64 la):=Xc HK2.o rfl;have b1:w2.cell? ⟨w.heap.size,1,none⟩=some (.slice A q c):=Xc HK2.o rfl;cases o with
 |none =>
  simp only at he;subst he;have cL:=Vo HST2.o.bL;have fL:w2.frozen? ⟨a.LB,0,none⟩=false:=by simp[World.frozen?,HST2.o.bL]
  have HS3:=Lh (HST2.o.setL true);have HSP:=Lh (show Vq sets k ((la:Int),r) at_ p=⟨p.fol,p.grown,true⟩ by unfold Vq;rw[<-HO.o]);go_wp2_with fail;refine Zg (results_none rfl _ _ _) rfl ?_;refine⟨rfl,?_,(Hx.of_below HB2.o).set (p:=⟨a.LB,0,none⟩) _ (.inr (.inl rfl))⟩;rw[HSP.o];obtain⟨f1,f2,f3,f4,f5,f6,f7,f8,f9,f10,f11⟩:=HS3.o;exact⟨f1,f2,f3.mono (by omega),f4,f5,f6,f7,f8,f9,f10,f11⟩
 |some x =>
  simp only at he;obtain⟨v,rfl,hown⟩:=he;have qtN:at_<r.length:=by rw[<-HRL.o];exact xS
  obtain⟨b,off,cs,rfl,_,pM,Zx,Zm⟩:=HR2.o.get (k:=at_) qtN (by decide);obtain⟨rfl,Pr,gM⟩:=Zx;have Vh:=Zm 0 _ rfl;simp only[show Wo.size=1 from rfl,Yr,Yp] at Vh;have qA:=Lh (show r.getD at_ 0=r[at_] by rw[Qb,Qa qtN];rfl);have hsn:=wH.o _ (Qg qtN);obtain⟨s,hs⟩:=Xe (r[at_]);rw[<-hs] at Vh Pr gM qA hsn;clear Zm hs qtN;have HX:=Lh (show Dj x/\x.length<=4096 by
   have:=HO.o
   unfold Kg at this
   split at this
   ·cases this
   ·cases h1:lZ sets k (((la:Int),r).2.drop ((at_:Int)+1).toNat) with
    |none=>rw[h1] at this;cases this
    |some y=>rw[h1] at this;exact zz iH this.symm)
  have HOW:=Lh hown;obtain⟨Ax,cx,rfl,hx5,hx6⟩:=Zo hown;obtain⟨qx,ot⟩:=Xe x.length;rw[<-ot] at HOW hx5 |-;have HQX:=Lh ot;clear hown ot;by_cases oq:s<0
  ·have hd:decide (s<0)=true:=by simpa using oq
   have HSP:=Lh (show Vq sets k ((la:Int),r) at_ p=p by unfold Vq;rw[<-HO.o];simp only;rw[qA.o,if_pos oq]);go_wp2_with fail;refine (Jd s _).mono ?_;rintro e w5 ⟨rfl,rfl⟩;rw[hd];go_wp2_with fail
   go_end0
   refine⟨rfl,?_,Hx.of_below HB2.o⟩;rw[HSP.o];obtain⟨f1,f2,f3,f4,f5,f6,f7,f8,f9,f10,f11⟩:=HST2.o;exact⟨f1,f2,f3.mono (by omega),f4,f5,f6,f7,f8,f9,f10,f11⟩
  ·have hd:decide (s<0)=false:=by simpa using oq
   obtain⟨t,rfl⟩:∃ t:Nat,s=(t:Int):=⟨s.toNat,by omega⟩;have htn:t<a.n:=by omega
   have htl:t<p.fol.length:=by rw[HH.o.len];exact htn
   obtain⟨Ao,co,hco,ho1,ho2,hhi,hfz⟩:=HST2.o.row.get htl;have rx:=Lh (show p.fol.getD t []=p.fol[t] by rw[Qb,Qa htl];rfl);have HOB:=Lh (HH.o.small t _ (Qa htl));obtain⟨old,hold⟩:=Xe (p.fol[t]);rw[<-hold] at hco ho1 hhi rx HOB;obtain⟨qo,hqo⟩:=Xe old.length;rw[<-hqo] at hco ho1 hhi;have HHI:=Lh hhi;have HQO:=Lh hqo;have HSP:=Lh (show Vq sets k ((la:Int),r) at_ p=⟨p.fol.set t (Km old x),p.grown||decide (qo<(Km old x).length),p.limit||decide (4096<(Km old x).length)⟩ by
    unfold Vq
    rw[<-HO.o]
    simp only
    rw[qA.o,if_neg oq]
    simp only[Yy,rx.o,HQO.o])
   have cF:=Vo HST2.o.bF;have lF:=(gl HST2.o.bF);have lL:=(gl HST2.o.bL);have lG:=(gl HST2.o.bG);have lg:=HST2.o.row.lt;have lb:=(gl HK2.o);clear hold hqo hhi htl;go_wp2_with fail;refine (Jd _ _).mono ?_;rintro e w5 ⟨rfl,rfl⟩;rw[hd];go_wp2_with fail;have hb3:=(Xr w2.heap.size w2).alloc (Ya _) (.cells #[.slice Ao qo co,.slice Ax qx cx] 22);have qlQ:=HST2.o.below hb3;have eh:=Xn w2 (.cells #[.slice Ao qo co,.slice Ax qx cx] 22);have Ab:Je eW w2 w2.heap.size (.slice Ax qx cx) x:=cX (Pu HX.o.1) (by have:=HOW.o;rw[HQX.o] at this |-;exact this);have HU:=Lh (yH (some ⟨w2.heap.size,0,none⟩) 2 old x (w2.alloc (.cells #[.slice Ao qo co,.slice Ax qx cx] 22)) (m_ eh (HHI.o.sl.fut hb3 (Ya _) hb3.size) (Ab.fut hb3 (Ya _) hb3.size)) (by have:=HOB.o.2;have:=HX.o.2;omega));have HB3:=Lh hb3;have wD:=Lh qlQ;clear hb3 qlQ eh Ab cF hco hfz lF lL lG lg lb b0 b1 Vh;generalize w2.alloc (.cells #[.slice Ao qo co,.slice Ax qx cx] 22)=w3 at *;refine HU.o.mono ?_;rintro e w4 ⟨v4,rfl,hown,hb4⟩;have Cp:=Lh (wD.o.below hb4);have quY:=Lh (HB3.o.trans (hb4.mono HB3.o.size));have HB4:=Lh ((HB2.o.trans (quY.o.mono HB2.o.size)));have ik:=Lt (Dj (Km old x)) (Cw HOB.o.1 HX.o.1);have eY:w4.ownsRow w3.heap.size 9 1 v4 (Km old x).length (Jf (Km old x)):=hown;have HHU:=Lh (Hi.own (lo:=a.lo) (e0:=a.e0) (Pu ik.o) eY (.inl (by have:=wD.o.le;omega)));obtain⟨A4,c4,rfl,pk,h42⟩:=Zo eY;have rt:=Lh (show (Km old x).length<=M+4096 by
    have:=sA (old++x)
    rw[Qe] at this
    have h1:=HOB.o.2
    have h2:=HX.o.2
    unfold Km
    omega)
   have HUA:=Lh (Fz old x);obtain⟨u,hu⟩:=Xe (Km old x);rw[<-hu] at HSP ik HHU pk rt HUA;rw[<-hu];clear hown eY hb4 HU hu;obtain⟨qu,hqu⟩:=Xe u.length;rw[<-hqu] at HSP HHU pk rt |-;have HQU:=Lh hqu;clear hqu;have znW:(qu:Int)<=549755818000:=by have:=rt.o;omega
   have htl:t<p.fol.length:=by rw[HH.o.len];exact htn
   obtain⟨Ao',co',qzF,qeP,zoE,qzC,zpH⟩:=Cp.o.row.get htl;have ov:p.fol[t].length=qo:=by
    have:=rx.o;rw[Qb,Qa htl] at this;rw[HQO.o,<-this];rfl
   rw[ov] at qzF qeP;have cF:=Vo Cp.o.bF;have cG:=Vo Cp.o.bG;have cL:=Vo Cp.o.bL;have fG:w4.frozen? ⟨a.GB,0,none⟩=false:=by simp[World.frozen?,Cp.o.bG]
   have fL:w4.frozen? ⟨a.LB,0,none⟩=false:=by simp[World.frozen?,Cp.o.bL]
   obtain⟨⟨l1,l2,l3,l4,l5,l6,l7⟩,⟨m1,m2,m3,m4,m5⟩,⟨o1,o2,o3,o4⟩,⟨d1,d2,d3,d4,d5,d6⟩⟩:=Cp.o.le;have Mg:Hid (∀(bg bl:Bool)(w6:World),w6=((w4.setCell ⟨a.GB,0,none⟩ (.bool bg)).setCell ⟨a.LB,0,none⟩ (.bool bl)).setCell ⟨a.g,t,none⟩ (.slice A4 qu c4)->bg=(p.grown||decide (qo<qu))->bl=(p.limit||decide (4096<qu))->Fo a k sets w6 (Vq sets k ((la:Int),r) at_ p) (M+4096)/\Hx a w w6):=by
    rintro bg bl w6 rfl rfl rfl;rw[HSP.o];have s1:=(Cp.o.setG (p.grown||decide (qo<qu))).setL (p.limit||decide (4096<qu));have oO:Hi a.lo a.e0 ((w4.setCell ⟨a.GB,0,none⟩ (.bool (p.grown||decide (qo<qu)))).setCell ⟨a.LB,0,none⟩ (.bool (p.limit||decide (4096<qu)))) (.slice A4 qu c4) u:=by
     refine HHU.o.keep (by simp[World.setCell]) fun z hz _=>?_;rw[World.cell?_of_block (Zd _ _ _ _ (by show z.block≠a.LB;rcases hz with hz | hz <;> omega)),World.cell?_of_block (Zd _ _ _ _ (by show z.block≠a.GB;rcases hz with hz | hz <;> omega))]
    refine⟨s1.setRow oO ⟨ik.o,by rw[<-HQU.o];exact rt.o⟩ HUA.o (by omega),?_⟩;exact (((Hx.of_below HB4.o).set (p:=⟨a.GB,0,none⟩) _ (.inr (.inr rfl))).set (p:=⟨a.LB,0,none⟩) _ (.inr (.inl rfl))).set (p:=⟨a.g,t,none⟩) _ (.inl rfl)
   obtain⟨fol,gb,lb⟩:=p;simp only at cG cL Mg;clear qzC ov htl l1 l2 l3 l4 l5 l6 l7 m1 m2 m3 m4 m5 o1 o2 o3 o4;have hG:(gb=true)\/(gb=false/\qo<qu)\/(gb=false/\¬ qo<qu):=by cases gb <;> simp <;> omega
   have hL:(lb=true)\/(lb=false/\4096<qu)\/(lb=false/\¬ 4096<qu):=by cases lb <;> simp <;> omega
   rcases hG with rfl | ⟨rfl,hg⟩ | ⟨rfl,hg⟩
   ·rcases hL with rfl | ⟨rfl,hl⟩ | ⟨rfl,hl⟩
    ·go_wp2_with fail
     go_end0
     exact⟨rfl,Mg.o true true _ rfl rfl rfl⟩
    ·have ji:decide ((4096:Int)<(qu:Int))=true:=by rw[Yj];omega
     go_wp2_with fail
     go_end0
     exact⟨rfl,Mg.o true true _ rfl rfl (by rw[Yv hl];rfl)⟩
    ·have ji:decide ((4096:Int)<(qu:Int))=false:=by rw[Yk];omega
     go_wp2_with fail
     go_end0
     exact⟨rfl,Mg.o true false _ rfl rfl (by rw[Yw hl];rfl)⟩
   ·rcases hL with rfl | ⟨rfl,hl⟩ | ⟨rfl,hl⟩
    ·go_wp2_with fail
     go_end0
     exact⟨rfl,Mg.o true true _ rfl (by rw[Yv hg];rfl) rfl⟩
    ·have ji:decide ((4096:Int)<(qu:Int))=true:=by rw[Yj];omega
     go_wp2_with fail
     go_end0
     exact⟨rfl,Mg.o true true _ rfl (by rw[Yv hg];rfl) (by rw[Yv hl];rfl)⟩
    ·have ji:decide ((4096:Int)<(qu:Int))=false:=by rw[Yk];omega
     go_wp2_with fail
     go_end0
     exact⟨rfl,Mg.o true false _ rfl (by rw[Yv hg];rfl) (by rw[Yw hl];rfl)⟩
   ·rcases hL with rfl | ⟨rfl,hl⟩ | ⟨rfl,hl⟩
    ·go_wp2_with fail
     go_end0
     exact⟨rfl,Mg.o false true _ rfl (by rw[Yw hg];rfl) rfl⟩
    ·have ji:decide ((4096:Int)<(qu:Int))=true:=by rw[Yj];omega
     go_wp2_with fail
     go_end0
     exact⟨rfl,Mg.o false true _ rfl (by rw[Yw hg];rfl) (by rw[Yv hl];rfl)⟩
    ·have ji:decide ((4096:Int)<(qu:Int))=false:=by rw[Yk];omega
     go_wp2_with fail
     go_end0
     exact⟨rfl,Mg.o false false _ rfl (by rw[Yw hg];rfl) (by rw[Yw hl];rfl)⟩
structure sf(t0 n:Nat)(p:En):Prop where
 asc:Uv p.fol
 len:p.fol.length=n
 small:p.limit=false->Dr p.fol
 more:t0<=Oq p.fol
 grew:p.grown=true->t0<Oq p.fol
theorem nC{k:Nat}(hk:k<=4){sets fol:Zw}{r:Int×List Int}{at_:Int}{x:List Wd}(h:Kg sets fol k r at_=some x):Dj x/\x.length<=4096:=by
 unfold Kg at h;split at h
 ·cases h
 ·cases h1:lZ sets k (r.2.drop (at_+1).toNat) with
  |none=>rw[h1] at h;cases h
  |some y=>rw[h1,Option.bind_some] at h;exact zz hk h
theorem sf.step{t0 n k:Nat}(hk:k<=4){sets:Zw}{r:Int×List Int}{at_:Nat}{p:En}(h:sf t0 n p)(hs:0<=r.2.getD at_ 0->r.2.getD at_ 0<(n:Int)):sf t0 n (Vq sets k r at_ p):=by
 unfold Vq;cases h1:Kg sets p.fol k r at_ with
 |none=>exact⟨h.asc,h.len,fun e=>(by cases e),h.more,h.grew⟩
 |some x =>
  simp only;split
  ·exact h
  ·rename_i Dg;have hx:=nC hk h1;have hl:(r.2.getD at_ 0).toNat<p.fol.length:=by rw[h.len];have:=hs (by omega);omega
   have ht:=ct p.fol (r.2.getD at_ 0).toNat (Km (p.fol.getD (r.2.getD at_ 0).toNat []) x) hl;have hu:=(cM (b:=x) (h.asc.getD (r.2.getD at_ 0).toNat)).1;change (p.fol.getD (r.2.getD at_ 0).toNat []).length<=(Km (p.fol.getD (r.2.getD at_ 0).toNat []) x).length at hu;have hm:=h.more;refine⟨h.asc.set _ (Fz _ _),by simpa using h.len,fun e=>?_,by simp only;omega,fun e=>?_⟩
   ·simp only[Ym,Yk] at e;have hb:=h.small e.1;exact hb.set _ ⟨Cw (hb.getD _).1 hx.1,by omega⟩
   ·simp only[Yt,Yj] at e;rcases e with e | e
    ·have:=h.grew e;simp only;omega
    ·simp only;omega
theorem xA{sets:Zw}{k:Int}{r:Int×List Int}{m at_:Nat}{p:En}:Vs sets k r (m+1) at_ p=Vs sets k r m (at_+1) (Vq sets k r at_ p):=rfl
theorem pu{sets:Zw}{k:Int}{rs:Zu}{fol:Zw}{p:En}(h:Vy sets k rs ⟨fol,false,false⟩=p):Rj sets k rs fol=if p.limit then none else some (p.fol,p.grown):=by
 unfold Rj;rw[h]
def qhF(k:Int)(g:Kc)(w':World)(e:Ending):Prop :=
 ∃ o1,Fx k g.2.2 g.1.length o1/\match o1 with
 |none=>e=.returned (.tuple #[.slice none 0 0,.int .i64 21])
 |some s=>∃ o2,Dt s k g.2.2 g.1.length o2/\qbH w' o2 e
def qhE(k:Int)(g:Kc)(w:World)(e:Ending)(w':World):Prop :=
 Below w.heap.size w w'/\(Cr k g->e=.returned (.tuple #[.slice none 0 0,.int .i64 1]))/\(¬ Cr k g->qhF k g w' e)
structure kT(k:Int)(rs:Zu)(n:Nat)(sets:Zw)(gas:Nat)(p:En):Prop where
 asc:Uv p.fol
 small:p.limit=false->Dr p.fol
 over:p.limit=true->Dt sets k rs n none
 done:p.limit=false->p.grown=false->Dt sets k rs n (some p.fol)
 more:p.limit=false->p.grown=true->(∀ o,RoundsTo (Rj sets k rs) p.fol o->Dt sets k rs n o)/\4096*n<=gas+Oq p.fol
theorem kT.next{k:Int}{rs:Zu}{n:Nat}{sets:Zw}{gas:Nat}{p p':En}(h:kT k rs n sets gas p)(hl:p.limit=false)(hg:p.grown=true)(he:Vy sets k rs ⟨p.fol,false,false⟩=p')(hp:sf (Oq p.fol) n p')(hb:Oq p'.fol<=4096*n\/p'.limit=true) :
  kT k rs n sets (gas - 1) p'/\(p'.limit=false->p'.grown=true->1<=gas):=by
 obtain⟨h1,h2⟩:=h.more hl hg;have hr:=pu he;refine⟨⟨hp.asc,hp.small,fun kY=>h1 none (.fail (by rw[hr,kY];rfl)),fun kY pJ=>h1 _ (.done (by rw[hr,kY,pJ];rfl)),fun kY pJ=>⟨fun o ho=>h1 o (.more (by rw[hr,kY,pJ];rfl) ho),?_⟩⟩,fun kY pJ=>?_⟩
 ·have:=hp.grew pJ;omega
 ·have h3:=hp.grew pJ;rcases hb with hb | hb
  ·omega
  ·rw[kY] at hb;cases hb
theorem tt(w:World)(o0 o1 o2 o3 o4 o5:Obj):((((((w.alloc o0).alloc o1).alloc o2).alloc o3).alloc o4).alloc o5).heap.size=w.heap.size+6 /\
  ((((((w.alloc o0).alloc o1).alloc o2).alloc o3).alloc o4).alloc o5).heap[w.heap.size]? = some o0/\((((((w.alloc o0).alloc o1).alloc o2).alloc o3).alloc o4).alloc o5).heap[w.heap.size+1]? = some o1 /\
  ((((((w.alloc o0).alloc o1).alloc o2).alloc o3).alloc o4).alloc o5).heap[w.heap.size+2]? = some o2/\((((((w.alloc o0).alloc o1).alloc o2).alloc o3).alloc o4).alloc o5).heap[w.heap.size+3]? = some o3 /\
  ((((((w.alloc o0).alloc o1).alloc o2).alloc o3).alloc o4).alloc o5).heap[w.heap.size+4]? = some o4/\((((((w.alloc o0).alloc o1).alloc o2).alloc o3).alloc o4).alloc o5).heap[w.heap.size+5]? = some o5 /\
  Below w.heap.size w ((((((w.alloc o0).alloc o1).alloc o2).alloc o3).alloc o4).alloc o5):=by
 have z1:=Xs w o0;have z2:=Xs (w.alloc o0) o1;have z3:=Xs ((w.alloc o0).alloc o1) o2;have z4:=Xs (((w.alloc o0).alloc o1).alloc o2) o3;have z5:=Xs ((((w.alloc o0).alloc o1).alloc o2).alloc o3) o4;have z6:=Xs (((((w.alloc o0).alloc o1).alloc o2).alloc o3).alloc o4) o5;have n0:=Xn w o0;have n1:=Xn (w.alloc o0) o1;have n2:=Xn ((w.alloc o0).alloc o1) o2;have n3:=Xn (((w.alloc o0).alloc o1).alloc o2) o3;have n4:=Xn ((((w.alloc o0).alloc o1).alloc o2).alloc o3) o4;have n5:=Xn (((((w.alloc o0).alloc o1).alloc o2).alloc o3).alloc o4) o5;rw[z1] at n1 z2;rw[z2] at n2 z3;rw[z3] at n3 z4;rw[z4] at n4 z5;rw[z5] at n5 z6;refine⟨z6,?_,?_,?_,?_,?_,n5,?_⟩
 ·rw[Ze _ _ _ (by omega),Ze _ _ _ (by omega),Ze _ _ _ (by omega),Ze _ _ _ (by omega),Ze _ _ _ (by omega)];exact n0
 ·rw[Ze _ _ _ (by omega),Ze _ _ _ (by omega),Ze _ _ _ (by omega),Ze _ _ _ (by omega)];exact n1
 ·rw[Ze _ _ _ (by omega),Ze _ _ _ (by omega),Ze _ _ _ (by omega)];exact n2
 ·rw[Ze _ _ _ (by omega),Ze _ _ _ (by omega)];exact n3
 ·rw[Ze _ _ _ (by omega)];exact n4
 ·exact (((((Xr w.heap.size w).alloc (Ya _) o0).alloc (by omega) o1).alloc (by omega) o2).alloc (by omega) o3).alloc (by omega) o4 |>.alloc (by omega) o5
theorem qcL{t:TypeId}{g lo e0 n:Nat}{w:World}(hg:w.heap[g]? = some (.cells ((Array.replicate n (Value.slice none 0 0)).setIfInBounds 0 (.slice (some ⟨e0,0,none⟩) 1 1)) t (0,0)))(he:w.heap[e0]? = some (.cells #[.string ⟨#[]⟩] 9 (0,0))):Ef t g lo e0 w ((List.replicate n []).set 0 [[]]):=by
 refine⟨(List.replicate n (Value.slice none 0 0)).set 0 (.slice (some ⟨e0,0,none⟩) 1 1),?_,by simp,fun i v x hv hx=>?_⟩
 ·rw[hg];congr 2;apply Array.ext';simp
 ·rw[Xv] at hv hx;split at hv
  ·rename_i e;rw[if_pos e] at hx;split at hv
   ·split at hx
    ·injection hv with hv;injection hx with hx;subst hv hx;intro w' hw;have Ji:=(gl he);refine Io (xs:=[[]]) (fun y hy=>by rw[Qi] at hy;subst hy;unfold maxLen;simp) (fun _=>⟨e0,0,rfl,Ji,fun j u hu=>?_⟩) (Ya _) (by unfold maxLen;omega)
     match j,hu with
     |0,hu =>
      injection hu with hu;subst hu;rw[hw _ (.inr rfl) Ji];exact Vo he
     |j+1,hu=>simp[Jf] at hu
    ·cases hx
   ·cases hv
  ·rename_i e;rw[if_neg e] at hx;rw[Xg] at hv hx;split at hv
   ·rename_i hi;rw[if_pos hi] at hx;injection hv with hv;injection hx with hx;subst hv hx;exact Hi.nil lo e0 w
   ·cases hv
theorem Dr.toM{s:Zw}(h:Dr s):oY 4096 s:=h
theorem l_(n:Nat):Dr ((List.replicate n []).set 0 [[]]):=(Dr.replicate n).set 0 ⟨fun x hx=>by rw[Qi] at hx;subst hx;simp,by simp⟩
theorem yS(n:Nat):Uv ((List.replicate n []).set 0 [[]]):=(Uv.replicate n).set 0 (by simp)
theorem uK{A1 A2 A3:Option Addr}{n m q c1 c2 c3:Nat}{g:Kc}(k:Int)(w:World)(h:Nb w w.heap.size A1 A2 A3 n m q c1 c2 c3 g) :
  Calls Tryz.prog 89 #[Ri A1 A2 A3 n m q c1 c2 c3,.int .i64 k] w (qhE k g w):=by
 have hb1:=(Xr w.heap.size w).alloc (Ya _) (.cells #[.slice A1 n c1,.slice A2 m c2,.slice A3 q c3] 25);have z1:=Xs w (.cells #[.slice A1 n c1,.slice A2 m c2,.slice A3 q c3] 25);have k1:=Xn w (.cells #[.slice A1 n c1,.slice A2 m c2,.slice A3 q c3] 25);have Ja:=(Xr _ (w.alloc (.cells #[.slice A1 n c1,.slice A2 m c2,.slice A3 q c3] 25))).alloc (Ya _) (.cells #[.int .i64 k] 3);have z2:=Xs (w.alloc (.cells #[.slice A1 n c1,.slice A2 m c2,.slice A3 q c3] 25)) (.cells #[.int .i64 k] 3);have k2:=Fu w (.cells #[.slice A1 n c1,.slice A2 m c2,.slice A3 q c3] 25) (.cells #[.int .i64 k] 3);have HB:=Lh (hb1.trans (Ja.mono (by rw[z1];omega)));have HZ:=Lh (z2.trans (by rw[z1]));have H_:=Lh ((Ja.block w.heap.size (by rw[z1];omega)).trans k1);have HKK:=Lh k2;have HV:=Lh (h.fut HB.o (Ya _) (Ya _));have HL:=Lh h.ln;have wN:=h.small;clear h hb1 z1 k1 Ja z2 k2;go_enter Tryz.func89,Tryz.ntmps89;go_wp2_with fail;generalize (w.alloc (.cells #[.slice A1 n c1,.slice A2 m c2,.slice A3 q c3] 25)).alloc (.cells #[.int .i64 k] 3)=w1 at *;refine (fA k w1 (HV.o.fut (N:=w1.heap.size) (B':=w1.heap.size) (Xr _ _) (by rw[HZ.o];omega) (by rw[HZ.o];omega))).mono ?_;rintro e w2 ⟨Ja,uC,hgood⟩;have HB2:=Lh (HB.o.trans (Ja.mono (by rw[HZ.o];omega)));have HB12:=Lt (Below (w.heap.size+2) w1 w2) (Ja.mono (Yi HZ.o.symm));have HS2:=Lh (show w.heap.size+2<=w2.heap.size by have:=Ja.size;rw[HZ.o] at this;exact this);clear Ja;by_cases kZ:Cr k g
 ·have:=uC kZ;subst this;have Rw:=Lh kZ;clear uC hgood kZ;go_wp2_with fail
  go_ret2
  exact⟨HB2.o.alloc (by have:=HS2.o;omega) _,fun _=>rfl,fun h=>absurd Rw.o h⟩
 obtain⟨o1,ho1,It⟩:=hgood kZ;have nJ:=Lh kZ;have HF:=Lh ho1;clear uC hgood kZ ho1;cases o1 with
 |none =>
  have:e=.returned (.tuple #[.slice none 0 0,.int .i64 21]):=It;subst this;clear It;go_wp2_with fail
  go_ret2
  exact⟨HB2.o.alloc (by have:=HS2.o;omega) _,fun h=>absurd h nJ.o,fun _=>⟨none,HF.o,rfl⟩⟩
 |some s =>
  obtain⟨As,cs,rfl,hss,hsb⟩:=It;obtain⟨ns,hns⟩:=Xe s.length;rw[<-hns] at hss |-;have HSS:=Lh hss;have kN:=Lh hsb;have Iu:¬ k<1:=fun h=>nJ.o (.inl h);have yo:¬ 4<k:=fun h=>nJ.o (.inr (.inl h));have Vh:Kb g=0:=Classical.byContradiction fun h=>nJ.o (.inr (.inr h));obtain⟨kk,hkk⟩:∃ kk:Nat,k=(kk:Int):=⟨k.toNat,by omega⟩;subst hkk;have iq:=Lh (If Vh);have zbH:=Lh ((HB12.o.block w.heap.size (by omega)).trans H_.o);have zbG:=Lh ((HB12.o.block (w.heap.size+1) (by omega)).trans HKK.o);have HN:=Lh (show 1<=n/\n<=256 by have h1:=iq.o.2.1.n1;have h2:=iq.o.2.1.nm;have:=HL.o.1;omega);have g0:w2.cell? ⟨w.heap.size,0,none⟩=some (.slice A1 n c1):=Xc zbH.o rfl;have Sc:w.heap.size<w2.heap.size:=by have:=HS2.o;omega
  have qL:=yQ n (by have:=HN.o;omega) (w2.alloc (.cells #[.slice As ns cs] 76));have hn0:0<n:=HN.o.1;clear hss hsb Vh hns;go_wp2_with fail;obtain⟨a,ha⟩:∃ a:wJ,a=⟨w2.heap.size+1,w2.heap.size,w2.heap.size+1+1,w.heap.size+1,w2.heap.size+1+1+1+1+1,w2.heap.size+1+1+1+1,w2.heap.size+6,w2.heap.size+1+1+1,w2.heap.size+1,w2.heap.size,As,ns,cs,n⟩:=⟨_,rfl⟩;have hW:Hid (∃ W:World,W=((((((w2.alloc (.cells #[.slice As ns cs] 76)).alloc (.cells ((Array.replicate n (Value.slice none 0 0)).setIfInBounds 0 (.slice (some ⟨w2.heap.size+1+1+1,0,none⟩) 1 1)) 22)).alloc (.cells #[.slice (some ⟨w2.heap.size+1,0,none⟩) n n] 76)).alloc (.cells #[.string ⟨#[]⟩] 9)).alloc (.cells #[.bool true] 4)).alloc (.cells #[.bool false] 4)) /\
    W.heap.size=w2.heap.size+6/\Fo a kk s W ⟨(List.replicate n []).set 0 [[]],true,false⟩ 4096/\Below w2.heap.size w2 W):=by
   refine⟨_,rfl,?_⟩;obtain⟨z,h0,h1,h2,h3,h4,h5,pg⟩:=tt w2 (.cells #[.slice As ns cs] 76) (.cells ((Array.replicate n (Value.slice none 0 0)).setIfInBounds 0 (.slice (some ⟨w2.heap.size+1+1+1,0,none⟩) 1 1)) 22) (.cells #[.slice (some ⟨w2.heap.size+1,0,none⟩) n n] 76) (.cells #[.string ⟨#[]⟩] 9) (.cells #[.bool true] 4) (.cells #[.bool false] 4);refine⟨z,?_,pg⟩;subst ha;exact⟨qcL h1 h3,by simp,(l_ n).toM,yS n,h0,h2,(pg.block _ (by have:=HS2.o;simp only;omega)).trans zbG.o,h5,h4,HSS.o.below pg,⟨by simp only;omega,by simp only;omega,by simp only;omega,by simp only;omega,by simp only;omega,by have:=HS2.o;simp only;omega,by simp only;omega⟩,⟨by simp only;omega,by simp only;omega,by simp only;omega,by simp only;omega,by simp only;rw[z];omega⟩,⟨by simp only;omega,by simp only;omega,by simp only;omega,by simp only;omega⟩,⟨by simp only;omega,by simp only;omega,by simp only;omega,by simp only;omega,by simp only;omega,by simp only;omega⟩⟩
  obtain⟨W,hWe,hWz,hWs,hWb⟩:=hW.o;rw[<-hWe];have HWB:=Lt (Below (w.heap.size+2) w1 W) (HB12.o.trans (hWb.mono HS2.o));have HWS:=Lh hWs;have HAN:=Lh (show a.n=n by rw[ha]);have HAG:=Lh (show a.g=w2.heap.size+1 by rw[ha]);have eGB:w2.heap.size+1+1+1+1=a.GB:=by rw[ha]
  have eLB:a.GB+1=a.LB:=by rw[ha]
  have eFB:w2.heap.size+1+1=a.FB:=by rw[ha]
  have eSB:w2.heap.size=a.SB:=by rw[ha]
  have eg:w2.heap.size+1=a.g:=by rw[ha]
  have eKB:w.heap.size+1=a.KB:=by rw[ha]
  rw[eGB,eLB,eFB,eg,eSB,eKB];have iM:=Lh (show a.LB=w2.heap.size+5/\a.GB=w2.heap.size+4 by rw[ha];exact⟨rfl,rfl⟩);have HHEAD:=Lt (kT kk g.2.2 n s (4096*n) ⟨(List.replicate n []).set 0 [[]],true,false⟩) (⟨yS n,fun _=>l_ n,fun h=>(by cases h),fun _ h=>(by cases h),fun _ _=>⟨fun o ho=>ho,Nat.le_add_right _ _⟩⟩);clear hW hWe hWz hWs hWb eGB eLB eFB eSB eg eKB qL ha g0 hn0;go_loopg [] (4096*n+1) (fun gas wr=>∃(p:En)(M:Nat),Hid (Fo a kk s wr p M)/\Hid (kT kk g.2.2 n s (gas - 1) p)/\Hid (p.limit=false->p.grown=true->1<=gas)/\Hid (Below (w.heap.size+2) w1 wr));exact⟨⟨(List.replicate n []).set 0 [[]],true,false⟩,4096,HWS.o,HHEAD.o,fun _ _=>Nat.le_add_left _ _,HWB.o⟩;clear HWS HHEAD HWB;obtain⟨p,M,HST,HHD,qxB,HBW⟩:=hrel;obtain⟨gas,Gf⟩:=Xe gk;rw[<-Gf] at HHD qxB;have HGK:=Lh Gf;obtain⟨fol,gb,lb⟩:=p;have cG:=Vo HST.o.bG;have cL:=Vo HST.o.bL;simp only at cG cL;have kg:=(HBW.o.block w.heap.size (by omega)).trans H_.o;have g2':wr.cell? ⟨w.heap.size,2,none⟩=some (.slice A3 q c3):=Xc kg rfl;have hne:w.heap.size≠a.GB:=by have:=iM.o.2;omega
  have Ly:w.heap.size≠a.LB:=by have:=iM.o.1;omega
  clear Gf kg;cases lb with
  |true =>
   have zhY:=Lh (HHD.o.over rfl);cases gb
   all_goals
    go_wp2_with fail
    go_ret2
    exact⟨HB.o.trans (HBW.o.mono (by omega)),fun h=>absurd h nJ.o,fun _=>⟨some s,HF.o,none,by rw[<-HL.o.1];exact zhY.o,rfl⟩⟩
  |false =>
   cases gb with
   |false =>
    have ziR:=Lh (HHD.o.done rfl rfl);have cF:=Vo HST.o.bF;have HSL:=Lh (HST.o.row.sl (by rw[HST.o.len,HAN.o];have:=HN.o;unfold maxLen;omega));have iK:=Lh (HHD.o.small rfl);go_wp2_with fail
    go_ret2
    refine⟨HB.o.trans (HBW.o.mono (by omega)),fun h=>absurd h nJ.o,fun _=>⟨some s,HF.o,some fol,by rw[<-HL.o.1];exact ziR.o,some ⟨a.g,0,none⟩,fol.length,?_,HSL.o,iK.o⟩⟩;rw[show fol.length=a.n from HST.o.len];rfl
   |true =>
    have fG:wr.frozen? ⟨a.GB,0,none⟩=false:=by simp[World.frozen?,HST.o.bG]
    have HST0:=Lh (show Fo a kk s (wr.setCell ⟨a.GB,0,none⟩ (.bool false)) ⟨fol,false,false⟩ 4096 by
     obtain⟨f1,f2,f3,f4,f5,f6,f7,f8,f9,f10,f11⟩:=HST.o.setG false
     exact⟨f1,f2,(HHD.o.small rfl).toM,f4,f5,f6,f7,f8,f9,f10,f11⟩)
    have HB0:=Lt (Below (w.heap.size+2) w1 (wr.setCell ⟨a.GB,0,none⟩ (.bool false))) (Below.setCell (p:=⟨a.GB,0,none⟩) HBW.o (by show w.heap.size+2<=a.GB;have:=iM.o.2;have:=HS2.o;omega) _);have HFP0:=Lt (sf (Oq fol) n ⟨fol,false,false⟩) (⟨HHD.o.asc,by rw[<-HAN.o];exact HST.o.len,fun _=>HHD.o.small rfl,Ya _,fun h=>(by cases h)⟩);go_wp2_with fail;go_loopg [40] q (fun left v40 wt=>∃(j:Nat)(p':En),j<=q/\q - j<=left/\v40=.int .i64 j/\Hid (Fo a kk s wt p' (4096+262144*j))/\Hid (Vy s kk (g.2.2.drop j) p'=Vy s kk g.2.2 ⟨fol,false,false⟩)/\Hid (sf (Oq fol) n p')/\Hid (Below (w.heap.size+2) w1 wt));exact⟨0,⟨fol,false,false⟩,by omega,by omega,rfl,HST0.o,rfl,HFP0.o,HB0.o⟩;clear HST0 HB0 HFP0 cG cL fG g2' HST HBW;obtain⟨j,p',hj,Dp,rfl,HST,HSP,HFP,HBW⟩:=hrel;obtain⟨lft,oy⟩:=Xe gk;rw[<-oy] at Dp;have HLK:=Lh oy;clear oy;by_cases hjq:j<q
    ·have Mn:j<g.2.2.length:=by rw[<-HL.o.2.2];exact hjq
     have wG:=Lh (HV.o.rules.below (HBW.o.mono (by omega)));obtain⟨bb,off,cs',rfl,_,pM,Zx,Zm⟩:=wG.o.get (k:=j) Mn (by decide);obtain⟨v,rfl,Mi,xP,pG⟩:=Kq Zx;obtain⟨A5,c5,rfl,Ic,kX⟩:=Mi.form;have Vh:=Zm 0 _ rfl;have Nj:=Zm 1 _ rfl;simp only[show Vv.size=2 from rfl,Yp,<-Yx] at Vh Nj;have HSP2:=Lh (show Vy s kk (g.2.2.drop (j+1)) (Vs s kk g.2.2[j] g.2.2[j].2.length 0 p')=Vy s kk g.2.2 ⟨fol,false,false⟩ by rw[<-HSP.o,Ql Mn];rfl);have Ev:=iq.o.2.1.fit _ (Qg Mn);obtain⟨r,hr⟩:=Xe (g.2.2[j]);rw[<-hr] at Vh Nj HSP2 Mi xP pG Ic Ev;obtain⟨r1,r2⟩:=r;obtain⟨la,rfl⟩:∃ la:Nat,r1=(la:Int):=⟨r1.toNat,by have:=Ev.1;simp only at this;omega⟩;simp only at Vh Nj Mi Ic Ev pG HSP2;obtain⟨ql,ou⟩:=Xe r2.length;rw[<-ou] at Nj Mi Ic Ev HSP2;have HQL:=Lh ou;have HSL:=Lh Mi;have wH:=Lh Ev;have qsW:ql<=64:=Ev.2.2.1;have ztN:=Lh (show la<a.n by rw[HAN.o];have:=Ev.2.1;have:=HL.o.1;omega);have HJQ:=Lh (show j<4096 by have:=iq.o.2.1.q;have:=HL.o.2.2;omega);clear Zm Zx hr ou Mi Mn HSP Ev xP pG;go_wp2_with fail;have Mo:=(Xr wr.heap.size wr).alloc (Ya _) (.cells #[.int .i64 la,.slice A5 ql c5] 63);have HST1:=Lh (HST.o.below Mo);have HKX:=Lh (Xn wr (.cells #[.int .i64 la,.slice A5 ql c5] 63));have HWS:=Lh (show w2.heap.size+6<=wr.heap.size by have h1:=HST.o.le;have h2:=iM.o;omega);have HBX:=Lh (HBW.o.trans (Mo.mono (by have:=HWS.o;have:=HS2.o;omega)));have sm:=Xs wr (.cells #[.int .i64 la,.slice A5 ql c5] 63);have HSLX:=Lh (HSL.o.below (Mo.mono (by have:=HWS.o;have:=HS2.o;omega)));clear Mo;generalize wr.alloc (.cells #[.int .i64 la,.slice A5 ql c5] 63)=wx at *;obtain⟨qrB,qvI⟩:=Xe wr.heap.size;rw[<-qvI] at HKX HWS |-;have zaO:=HWS;clear qvI;go_loopg [47] ql (fun zdV v47 wt=>∃(i:Nat)(p'':En),i<=ql/\ql - i<=zdV/\v47=.int .i64 i/\Hid (Fo a kk s wt p'' (4096+262144*j+4096*i))/\Hid (Vs s kk ((la:Int),r2) (ql - i) i p''=Vs s kk ((la:Int),r2) ql 0 p')/\Hid (sf (Oq fol) n p'')/\Hid (Below (w.heap.size+2) w1 wt)/\Hid (wt.heap[qrB]? = some (.cells #[.int .i64 la,.slice A5 ql c5] 63 (0,0)))/\Hid (Je Wo wt w.heap.size (.slice A5 ql c5) r2));exact⟨0,p',by omega,by omega,rfl,HST1.o,rfl,HFP.o,HBX.o,HKX.o,HSLX.o⟩;clear HST1 HKX HBX HSLX HST HBW Vh Nj;obtain⟨i,p'',hi,qyX,rfl,HST,zaT,ziM,HBW,HKX,HSLX⟩:=hrel;have b0:wr.cell? ⟨qrB,0,none⟩=some (.int .i64 la):=Xc HKX.o rfl;have b1:wr.cell? ⟨qrB,1,none⟩=some (.slice A5 ql c5):=Xc HKX.o rfl;by_cases hiq:i<ql
     ·have Wt:i<r2.length:=by rw[<-HQL.o];exact hiq
      have znP:=(wH.o.2.2.2 _ (Qg Wt)).1;have hgd:r2.getD i 0=r2[i]:=by rw[Qb,Qa Wt];rfl
      have HFP4:=Lh (ziM.o.step (k:=kk) (by omega) (sets:=s) (r:=((la:Int),r2)) (at_:=i) (fun _=>by simp only;rw[hgd];have:=HL.o.1;omega));have HSP4:=Lh (show Vs s kk ((la:Int),r2) (ql - (i+1)) (i+1) (Vq s kk ((la:Int),r2) i p'')=Vs s kk ((la:Int),r2) ql 0 p' by
       rw[<-zaT.o,show ql - i=(ql - (i+1))+1 by omega,xA])
      have sp:=Lh (tq a kk (4096+262144*j+4096*i) w.heap.size la i s wr p'' r2 A5 ql c5 HST.o kN.o (by omega) (by omega) ztN.o (by rw[HAN.o];exact HN.o.2) HQL.o (by omega) hiq (fun x hx=>by have:=(wH.o.2.2.2 x hx).1;rw[HAN.o];have:=HL.o.1;omega) HSLX.o (by have h1:=HST.o.le;have h2:=iM.o;have:=HS2.o;omega) (by have:=HJQ.o;omega));clear Wt znP hgd;go_wp2_with fail;refine sp.o.mono ?_;rintro e w7 ⟨rfl,zeI,hon⟩;have HST7:=Lt (Fo a kk s w7 (Vq s kk ((la:Int),r2) i p'') (4096+262144*j+4096*(i+1))) (zeI);have HB7:=Lh (HBW.o.trans (hon.below (C:=w.heap.size+2) (by have h1:=HST.o.le;have h2:=iM.o;have:=HS2.o;omega) (by rw[HAG.o];have:=HS2.o;omega) (by have:=iM.o;have:=HS2.o;omega) (by have:=iM.o;have:=HS2.o;omega)));have HK7:=Lh ((hon.block qrB (gl HKX.o) (by have h1:=zaO.o;have h2:=HAG.o;omega) (by have h1:=zaO.o;have h2:=iM.o;omega) (by have h1:=zaO.o;have h2:=iM.o;omega)).trans HKX.o);have HSL7:=Lh (HSLX.o.below (hon.below (C:=w.heap.size) (by have h1:=HST.o.le;have h2:=iM.o;have:=HS2.o;omega) (by rw[HAG.o];have:=HS2.o;omega) (by have:=iM.o;have:=HS2.o;omega) (by have:=iM.o;have:=HS2.o;omega)));clear zeI hon sp b0 b1;go_wp2_with fail;go_roundg (gk - 1);exact⟨i+1,Vq s kk ((la:Int),r2) i p'',by omega,by omega,by go_num,HST7.o,HSP4.o,HFP4.o,HB7.o,HK7.o,HSL7.o⟩;omega
     ·have qzA:i=ql:=by omega
      have HST9:=Lh (show Fo a kk s wr (Vs s kk ((la:Int),r2) ql 0 p') (4096+262144*(j+1)) by
       have h1:=zaT.o
       rw[qzA,Nat.sub_self] at h1
       have h2:p''=Vs s kk ((la:Int),r2) ql 0 p':=h1
       rw[<-h2]
       obtain⟨f1,f2,f3,f4,f5,f6,f7,f8,f9,f10,f11⟩:=HST.o
       exact⟨f1,f2,f3.mono (by omega),f4,f5,f6,f7,f8,f9,f10,f11⟩)
      have HFP9:=Lh (show sf (Oq fol) n (Vs s kk ((la:Int),r2) ql 0 p') by
       have h1:=zaT.o
       rw[qzA,Nat.sub_self] at h1
       have h2:p''=Vs s kk ((la:Int),r2) ql 0 p':=h1
       rw[<-h2]
       exact ziM.o)
      clear qzA;go_wp2_with fail;go_roundg (lft - 1);exact⟨j+1,_,by omega,by omega,by go_num,HST9.o,HSP2.o,HFP9.o,HBW.o⟩;have:=HLK.o;omega
    ·have HEND:=Lh (show Vy s kk g.2.2 ⟨fol,false,false⟩=p' by
      rw[<-HSP.o,show j=g.2.2.length by rw[<-HL.o.2.2];omega,List.drop_length];rfl)
     have HNX:=Lh (HHD.o.next rfl rfl HEND.o HFP.o (by
      rcases Yn p'.limit with h | h
      ·exact .inr h
      ·left
       have:=tf p'.fol (HFP.o.small h)
       rw[HFP.o.len] at this
       exact this))
     have HG1:=Lh (qxB.o trivial trivial);clear HSP HEND;go_wp2_with fail;go_roundg (gas - 1);exact⟨p',_,HST.o,HNX.o.1,fun h1 h2=>HNX.o.2 h1 h2,HBW.o⟩;have:=HGK.o;have:=HG1.o;omega
theorem qcC:Dc Tryz.prog 76 22 1 24 (.slice none 0 0):=Gq Tryz.underlying76 (by kernel_rfl) rfl (by omega)
def Lf(k:Int)(g:Kc)(o:Option Zw):Prop :=
 ∃ o1,Fx k g.2.2 g.1.length o1/\match o1 with
 |none=>o=none
 |some s=>∃ o2,Dt s k g.2.2 g.1.length o2/\match o2 with
  |none=>o=none
  |some f=>o=Mk s f k g.2.2
theorem Lf.det{k:Int}{g:Kc}{o o':Option Zw}(h:Lf k g o)(h':Lf k g o'):o=o':=by
 obtain⟨o1,h1,h2⟩:=h;obtain⟨o1',h1',h2'⟩:=h';have:=RoundsTo.det h1 h1';subst this;cases o1 with
 |none=>exact (show o=none from h2).trans (show o'=none from h2').symm
 |some s =>
  obtain⟨o2,h3,h4⟩:=h2;obtain⟨o2',h3',h4'⟩:=h2';have:=RoundsTo.det h3 h3';subst this;cases o2 with
  |none=>exact (show o=none from h4).trans (show o'=none from h4').symm
  |some f=>exact (show o=Mk s f k g.2.2 from h4).trans (show o'=Mk s f k g.2.2 from h4').symm
def sg(w':World)(o:Option Zw)(e:Ending):Prop :=
 match o with
 |none=>e=.returned (.tuple #[.slice none 0 0,.int .i64 21])
 |some s=>∃ A c,e=.returned (.tuple #[.slice A s.length c,.int .i64 0])/\Je (Th eW) w' w'.heap.size (.slice A s.length c) s
def qpQ(k:Int)(g:Kc)(w:World)(e:Ending)(w':World):Prop :=
 Below w.heap.size w w'/\(Cr k g->e=.returned (.tuple #[.slice none 0 0,.int .i64 1]))/\(¬ Cr k g->∃ o,Lf k g o/\sg w' o e)
theorem rm{s f:Zw}{k:Int}{r:Int×List Int}{rs:Zu}:Mk s f k (r::rs)=(Kg s f k r (-1)).bind fun x=>(Mk s f k rs).map (x::·):=rfl
theorem qtS{w:World}{base:Nat}{t:TypeId}{v:Value}{x:List Wd}(hf:nM x)(h:w.ownsRow base t 1 v x.length (Jf x)){r:Option Nat}(hr:∀ b,r=some b->b<base):∀ w',jc w w' w.heap.size r->(Th eW).rep w' w.heap.size [v] x:=by
 intro w' ha;obtain⟨A,c,rfl,h1,h2⟩:=Zo h;refine⟨_,rfl,Io hf (fun hne=>?_) h1 h2⟩;obtain⟨b,off,e,Ji,hc⟩:=Rd.of_own h hne;subst e;have hge:base<=b:=by
  rcases h.2 with ⟨hn,_⟩ | ⟨g,cap,cur,hv,hg,_⟩
  ·injection hn with e1;cases e1
  ·injection hv with e1 _ _;injection e1 with e1;injection e1 with e1 _;omega
 exact⟨b,off,rfl,Ji,fun j u hu=>(ha _ Ji (fun e=>by have:=hr b e.symm;omega)).trans (hc j u hu)⟩
theorem xZ{A1 A2 A3:Option Addr}{n m q c1 c2 c3:Nat}{g:Kc}(k:Int)(w:World)(h:Nb w w.heap.size A1 A2 A3 n m q c1 c2 c3 g) :
  Calls Tryz.prog 39 #[Ri A1 A2 A3 n m q c1 c2 c3,.int .i64 k] w (qpQ k g w):=by
 have Mo:=(Xr w.heap.size w).alloc (Ya _) (.cells #[.slice A1 n c1,.slice A2 m c2,.slice A3 q c3] 25);have HV:=Lh (h.fut (B':=w.heap.size) Mo (Ya _) (Ya _));have HK:=Lh (Xn w (.cells #[.slice A1 n c1,.slice A2 m c2,.slice A3 q c3] 25));have HZ:=Lh (Xs w (.cells #[.slice A1 n c1,.slice A2 m c2,.slice A3 q c3] 25));have HBX:=Lh Mo;have HL:=Lh h.ln;have wN:=h.small;clear h Mo;go_enter Tryz.func39,Tryz.ntmps39;go_wp2_with fail;generalize w.alloc (.cells #[.slice A1 n c1,.slice A2 m c2,.slice A3 q c3] 25)=w1 at *;refine (uK k w1 (HV.o.fut (N:=w1.heap.size) (B':=w1.heap.size) (Xr _ _) (by rw[HZ.o];omega) (by rw[HZ.o];omega))).mono ?_;rintro e w2 ⟨Ja,uC,hgood⟩;have HB2:=Lh (HBX.o.trans (Ja.mono (by rw[HZ.o];omega)));have HB12:=Lt (Below (w.heap.size+1) w1 w2) (Ja.mono (Yi HZ.o.symm));have HS2:=Lh (show w.heap.size+1<=w2.heap.size by have:=Ja.size;rw[HZ.o] at this;exact this);clear Ja;by_cases kZ:Cr k g
 ·have:=uC kZ;subst this;have Rw:=Lh kZ;clear uC hgood kZ;go_wp2_with fail
  go_ret2
  exact⟨HB2.o,fun _=>rfl,fun h=>absurd Rw.o h⟩
 obtain⟨o1,ho1,It⟩:=hgood kZ;have nJ:=Lh kZ;have HF:=Lh ho1;clear uC hgood kZ ho1;cases o1 with
 |none =>
  have:e=.returned (.tuple #[.slice none 0 0,.int .i64 21]):=It;subst this;clear It;go_wp2_with fail
  go_ret2
  exact⟨HB2.o,fun h=>absurd h nJ.o,fun _=>⟨none,⟨none,HF.o,rfl⟩,rfl⟩⟩
 |some s =>
  obtain⟨o2,ho2,qlV⟩:=It;have HO2:=Lh ho2;clear ho2;cases o2 with
  |none =>
   have:e=.returned (.tuple #[.slice none 0 0,.int .i64 21]):=qlV;subst this;clear qlV;go_wp2_with fail
   go_ret2
   exact⟨HB2.o,fun h=>absurd h nJ.o,fun _=>⟨none,⟨some s,HF.o,none,HO2.o,rfl⟩,rfl⟩⟩
  |some f =>
   obtain⟨Af,cf,rfl,hsf,hfb⟩:=qlV;obtain⟨nf,hnf⟩:=Xe f.length;rw[<-hnf] at hsf |-;have HNF:=Lh hnf;have pZ:=Lh hsf;have HFB:=Lh hfb;have k2:=(HB12.o.block w.heap.size (by omega)).trans HK.o;have d0:w2.cell? ⟨w.heap.size,0,none⟩=some (.slice A1 n c1):=Xc k2 rfl;have d1:w2.cell? ⟨w.heap.size,1,none⟩=some (.slice A2 m c2):=Xc k2 rfl;have d2:w2.cell? ⟨w.heap.size,2,none⟩=some (.slice A3 q c3):=Xc k2 rfl;clear hsf hfb hnf k2;go_wp2_with fail;refine (fA k w2 ((HV.o.fut (HB12.o) (by omega) (by omega:w.heap.size<=w.heap.size)).fut (N:=w2.heap.size) (B':=w2.heap.size) (Xr _ _) (by have:=HS2.o;omega) (by have:=HS2.o;omega))).mono ?_;rintro e w3 ⟨hb3,_,hgood⟩;obtain⟨o1',qeP,It⟩:=hgood nJ.o;have zpM:=RoundsTo.det HF.o qeP;subst zpM;obtain⟨As,cs,rfl,hss,hsb⟩:=It;obtain⟨ns,hns⟩:=Xe s.length;rw[<-hns] at hss |-;have HSS:=Lh hss;have kN:=Lh hsb;have zsK:=Lh (pZ.o.next hb3 hb3.size);have HB3:=Lh (HB2.o.trans (hb3.mono (by have:=HS2.o;omega)));have zjD:=Lh (HB12.o.trans (hb3.mono HS2.o));have HS3:=Lh (Yb HS2.o hb3.size);have k3:=(zjD.o.block w.heap.size (by omega)).trans HK.o;have d2:w3.cell? ⟨w.heap.size,2,none⟩=some (.slice A3 q c3):=Xc k3 rfl;have Iu:¬ k<1:=fun h=>nJ.o (.inl h);have yo:¬ 4<k:=fun h=>nJ.o (.inr (.inl h));have Vh:Kb g=0:=Classical.byContradiction fun h=>nJ.o (.inr (.inr h));obtain⟨kk,hkk⟩:∃ kk:Nat,k=(kk:Int):=⟨k.toNat,by omega⟩;subst hkk;have iq:=Lh (If Vh);have a_:=Lh (show nf=g.1.length by
    rw[HNF.o]
    have:=(Dt.full (by have:=iq.o.2.1.n1;omega) (Fx.full iq.o.2.1.well HF.o).1.sound (Fx.full iq.o.2.1.well HF.o).2 HO2.o).1.len
    exact this)
   clear hgood qeP hss hsb hb3 Vh hns d0 d1 k3;go_wp2_with fail;go_loopg [33,10] q (fun left v33 v10 wr=>∃(j:Nat)(outs:Zw),j<=q/\q - j<=left/\v33=.int .i64 j/\Hid (dY (Th eW) wr w3.heap.size 22 v10 outs)/\Hid (outs.length=j)/\Hid (Mk s f kk g.2.2=(Mk s f kk (g.2.2.drop j)).map (outs++·))/\Hid (Below w3.heap.size w3 wr));exact⟨0,[],by omega,by omega,rfl,dY.nil _ _ _,rfl,by simp[Hid],Xr _ _⟩;obtain⟨j,outs,hj,Dp,rfl,HO,HOL,HAW,HBR⟩:=hrel;obtain⟨A10,c10,rfl,qmD,zoX⟩:=HO.o.form;rw[HOL.o] at HO qmD |-;by_cases hjq:j<q
   ·have Mn:j<g.2.2.length:=by rw[<-HL.o.2.2];exact hjq
    have wG:=Lh ((HV.o.rules.below (zjD.o.mono (by omega))).below (HBR.o.mono (by have:=HS3.o;omega)));obtain⟨bb,off,cs',rfl,_,pM,Zx,Zm⟩:=wG.o.get (k:=j) Mn (by decide);obtain⟨v,rfl,Mi,xP,pG⟩:=Kq Zx;obtain⟨A5,c5,rfl,Ic,kX⟩:=Mi.form;have Vh:=Zm 0 _ rfl;have Nj:=Zm 1 _ rfl;simp only[show Vv.size=2 from rfl,Yp,<-Yx] at Vh Nj;have qpJ:=Lh (show Mk s f kk g.2.2=((Kg s f kk g.2.2[j] (-1)).bind fun x=>(Mk s f kk (g.2.2.drop (j+1))).map (x::·)).map (outs++·) by rw[HAW.o,Ql Mn,rm]);have Ev:=iq.o.2.1.fit _ (Qg Mn);obtain⟨r,hr⟩:=Xe (g.2.2[j]);rw[<-hr] at Vh Nj qpJ Mi xP pG Ic Ev;obtain⟨r1,r2⟩:=r;obtain⟨la,rfl⟩:∃ la:Nat,r1=(la:Int):=⟨r1.toNat,by have:=Ev.1;simp only at this;omega⟩;simp only at Vh Nj Mi Ic Ev pG;obtain⟨ql,ou⟩:=Xe r2.length;rw[<-ou] at Nj Mi Ic Ev;have HSL:=Lh Mi;have qsW:ql<=64:=Ev.2.2.1;have HJQ:=Lh (show j<4096 by have:=iq.o.2.1.q;have:=HL.o.2.2;omega);have HLA:=Lh (show la<nf by rw[a_.o];have:=Ev.2.1;omega);clear Zm Zx hr ou Mi Mn HAW Ev xP pG;go_wp2_with fail;have Mo:=(Xr wr.heap.size wr).alloc (Ya _) (.cells #[.int .i64 la,.slice A5 ql c5] 63);have HOX:=Lh (HO.o.later Mo);have qhB:=Lh (HBR.o.trans (Mo.mono HBR.o.size));have HWS:=Lh (show w.heap.size<=wr.heap.size by have:=HS3.o;have:=HBR.o.size;omega);have HSLX:=Lh (HSL.o.fut Mo HWS.o (Ya _));have HZX:=Lh (Xs wr (.cells #[.int .i64 la,.slice A5 ql c5] 63));clear Mo;generalize wr.alloc (.cells #[.int .i64 la,.slice A5 ql c5] 63)=wx at *;have zf:=vF As Af A5 cs cf c5 ql ns nf kk la 0 s f r2 wx (by omega) (by omega) (HSS.o.next (qhB.o) qhB.o.size) (zsK.o.next qhB.o qhB.o.size) (HSLX.o.more (by rw[HZX.o];have:=HWS.o;omega)) qsW (Yf _) HLA.o (fun i x hx=>by have:=kN.o i x hx;exact⟨this.1,by omega⟩) (fun i x hx=>by have:=HFB.o i x hx;exact⟨this.1,by omega⟩);rw[show (((0:Nat):Int) - 1)=(-1:Int) by rfl] at zf;refine zf.mono ?_;rintro e w6 ⟨hb6,he⟩;have HB6:=Lh (qhB.o.trans (hb6.mono qhB.o.size));have HO6:=Lh (HOX.o.later hb6);obtain⟨o,ho⟩:=Xe (Kg s f kk ((la:Int),r2) (-1));rw[<-ho] at he qpJ;have HBO:=Lh ho;clear hb6 zf ho;cases o with
    |none =>
     simp only at he;subst he;have HN:=Lh (show Mk s f kk g.2.2=none by rw[qpJ.o];rfl);go_wp2_with fail
     go_ret2
     exact⟨HB3.o.trans (HB6.o.mono (by have:=HS3.o;omega)),fun h=>absurd h nJ.o,fun _=>⟨none,⟨some s,HF.o,some f,HO2.o,HN.o.symm⟩,rfl⟩⟩
    |some x =>
     simp only at he;obtain⟨v,rfl,hown⟩:=he;have HX:=Lh (nC (by omega) HBO.o.symm);have HAW3:=Lh (show Mk s f kk g.2.2=(Mk s f kk (g.2.2.drop (j+1))).map ((outs++[x])++·) by
      rw[qpJ.o]
      simp only[Option.bind_some,Option.map_map]
      congr 1
      funext y
      simp)
     have HOB:=Lh (show ∀ b,(Value.slice A10 j c10).ownBlock=some b->b<wx.heap.size from fun b hb=>by
      obtain⟨css,h1,_⟩:=HOX.o
      exact (h1.lt b hb).2)
     have HES:=Lh (qtS (Pu HX.o.1) hown HOB.o);obtain⟨Ax,cx,rfl,hx5,hx6⟩:=Zo hown;obtain⟨css,qmL,qwD,qwC⟩:=HO6.o;rw[HOL.o] at qmL;have sq:=Lh qmL;have wX:=Lh qwD;have HC3:=Lh qwC;have Db:=Lt (w3.heap.size<=w6.heap.size) (HB6.o.size);obtain⟨qx,ot⟩:=Xe x.length;rw[<-ot] at HES hx5 |-;clear hown qmL qwD qwC ot qpJ;go_wp2_with (at_builtin;refine Zz (m:=1) (n:=j) qcC rfl rfl rfl rfl (sq.o.alloc _) (Rd.row (B:=w6.heap.size+1) (Xn w6 _) (by omega)) rfl (fun u hu=>by simp at hu;subst hu;rfl) (by have:=HJQ.o;unfold maxLen;omega) (by have:=HJQ.o;omega) (by rw[Xs];have:=Db.o;omega) ?_);intro v' w7 ho7 Ta hv7 _;have ph:=(Xr w6.heap.size w6).alloc (Ya _) (.cells #[.slice Ax qx cx] 22);have HO7:=Lt (dY (Th eW) w7 w3.heap.size 22 v' (outs++[x])) (by
      have hO':dY (Th eW) (w6.alloc (.cells #[.slice Ax qx cx] 22)) w3.heap.size 22 (.slice A10 j c10) outs:=HO6.o.later ph
      refine dY.snoc (v:=.slice A10 j c10) (w:=w6.alloc (.cells #[.slice Ax qx cx] 22)) (css:=css) wX.o (fun i cs x hc hx w' ha=>?_) (fun w' ha=>?_) (by rw[HOL.o];exact ho7) Ta (by rw[Xs];exact hv7)
      ·refine fJ.more _ (HC3.o i cs x hc hx w' fun p hp hn=>?_) ph.size
       rw[ha p (Yd hp ph.size) hn,ph.cell hp]
      ·refine fJ.more _ (HES.o w' fun p hp hn=>?_) ph.size
       rw[ha p (Yd hp ph.size) hn,ph.cell hp])
     have HB7:=Lh (Zt (HB6.o.alloc HB6.o.size (.cells #[.slice Ax qx cx] 22)) Ta (sq.o.alloc _) (Ya _) (by rw[Xs];have:=Db.o;omega));obtain⟨A7,c7,rfl,h71,h72⟩:=Zo ho7;have HOL7:=Lh (show (outs++[x]).length=j+1 by rw[Qe,HOL.o];rfl);clear ho7 Ta hv7 ph;go_wp2_with fail;go_roundg (gk - 1);exact⟨j+1,outs++[x],by omega,by omega,by go_num,HO7.o,HOL7.o,HAW3.o,HB7.o⟩;omega
   ·have HEND:=Lh (show Mk s f kk g.2.2=some outs by
     rw[HAW.o,show j=g.2.2.length by rw[<-HL.o.2.2];omega,List.drop_length]
     simp[Mk])
    go_wp2_with fail
    go_ret2
    refine⟨HB3.o.trans (HBR.o.mono (by have:=HS3.o;omega)),fun h=>absurd h nJ.o,fun _=>⟨some outs,⟨some s,HF.o,some f,HO2.o,HEND.o.symm⟩,A10,c10,?_,?_⟩⟩
    ·rw[HOL.o];rfl
    ·rw[HOL.o];exact HO.o.sl
theorem Oh.congr{l:List (Wd×Value)}{L L':List Wd}{N:Nat}(h:Oh l L N)(hm:∀ x,x∈L↔x∈L'):Oh l L' N:=fun x=>by
 obtain⟨n,h1,h2,h3⟩:=h x;exact⟨n,h1,h2,by rw[h3,hm]⟩
def Re(a b:List Wd):List Wd:=a.filter fun w=>decide (w∈b)
def zaJ(w:World)(l:List Wd)(e:Ending)(w':World):Prop:=∃ v,e=.returned v/\w'.ownsRow w.heap.size 9 1 v l.length (Jf l)/\Below w.heap.size w w'
theorem qdH{a b:List Wd}{i:Nat}(h:i<a.length):Re (a.take (i+1)) b=Re (a.take i) b++if a[i]∈b then [a[i]] else []:=by
 unfold Re;rw[Qc h,List.filter_append];congr 1;by_cases hb:a[i]∈b <;> simp[hb]
theorem qkP(A B:Option Addr)(ca cb:Nat)(a b:List Wd)(w:World)(ha:Je eW w w.heap.size (.slice A a.length ca) a)(hb:Je eW w w.heap.size (.slice B b.length cb) b)(la:a.length<=1048576)(lb:b.length<=1048576) :
  Calls Tryz.prog 148 #[.slice A a.length ca,.slice B b.length cb] w (zaJ w (Re a b)):=by
 have HA:=Lh ha;have HB:=Lh hb;obtain⟨na,hna⟩:∃ n,n=a.length:=⟨_,rfl⟩;obtain⟨nb,hnb⟩:∃ n,n=b.length:=⟨_,rfl⟩;rw[<-hna] at HA la |-;rw[<-hnb] at HB lb |-;have HNA:=Lh hna;have nJ:=Lh hnb;clear ha hb hna hnb;have hmm:=@run_makeMap Tryz.prog;go_enter Tryz.func148,Tryz.ntmps148;go_wp2_with fail;have HM1:=Lh (Up.made (κ:=wv) w);have HB1:=Lh ((Xr w.heap.size w).alloc (Ya _) (.map #[] 0));have HZ1:=Lh (Xs w (.map #[] 0));generalize w.alloc (.map #[] 0)=w1 at *;clear hmm;go_loopg [14] nb (fun left v14 wr=>∃(i:Nat)(l:List (Wd×Value)),i<=nb/\nb - i<=left/\v14=.int .i64 i/\Hid (Up wv wr w.heap.size l)/\Hid (Oh l (b.take i) i)/\Hid (Below w.heap.size w wr)/\Hid (wr.heap.size=w.heap.size+1));exact⟨0,[],by omega,by omega,rfl,HM1.o,Oh.nil,HB1.o,HZ1.o⟩;clear HM1 HB1 HZ1;obtain⟨i,l,hi,Dp,rfl,HM,HS,HBR,HZ⟩:=hrel;by_cases Li:i<nb
 ·have Wt:i<b.length:=by rw[<-nJ.o];exact Li
  obtain⟨b2,o2,rfl,_,Ja,Uy⟩:=(HB.o.below HBR.o).wd Wt;have HT:=Lh (Qc Wt);obtain⟨x,hx⟩:=Xe (b[i]);rw[<-hx] at Uy HT;clear hx Wt;obtain⟨n,hn,hnN,_⟩:=HS.o x;have hlk:=HM.o.lookup Kd Du x;rw[hn] at hlk;have hnb:(n:Int)<=1048576:=by omega
  have HS2:=Lh ((HS.o.put x hn hnN).congr (L':=b.take (i+1)) (fun y=>by rw[jK,HT.o,Qh,Qi]));clear hn hnN;go_wp2_with (at_mapUpdate;refine Su Kd rfl rfl rfl rfl rfl HM.o ?_);intro w2 qeS aI eX;have HM2:=Lh qeS;have HB2:=Lh (HBR.o.grown aI HBR.o.size (fun k hk=>by injection hk with hk;subst hk;exact Ya _));have HZ2:=Lh (eX.trans HZ.o);clear qeS aI eX hlk;go_wp2_with fail;go_roundg (gk - 1);exact⟨i+1,_,by omega,by omega,by go_num,HM2.o,HS2.o,HB2.o,HZ2.o⟩;omega
 ·have Ua:i=nb:=by omega
  have pZ:=Lh (show Oh l b i by
   have:=HS.o
   rwa [Ua,nJ.o,Qd (Ya _),<-nJ.o,<-Ua] at this)
  have HG:=Lh HM.o.lt;clear Ua HS;obtain⟨wm,hwm⟩:=Xe wr;rw[<-hwm] at HM HBR HZ HG |-;clear hwm;go_wp2_with fail;go_loopg [25,8] na (fun left v25 v8 wt=>∃(j:Nat),j<=na/\na - j<=left/\v25=.int .i64 j/\Hid (wt.ownsRow (w.heap.size+1) 9 1 v8 (Re (a.take j) b).length (Jf (Re (a.take j) b)))/\Hid (Below (w.heap.size+1) wm wt));exact⟨0,by omega,by omega,rfl,by simp only[List.take_zero,Re,List.filter_nil];exact Yz _ _ _ _,Xr _ _⟩;obtain⟨j,hj,qyX,rfl,HO,HBT⟩:=hrel;have HBW:=Lh (HBR.o.trans (HBT.o.mono (by omega:w.heap.size<=w.heap.size+1)));obtain⟨L,hL⟩:=Xe (Re (a.take j) b);rw[<-hL] at HO;have HLE:=Lh (show L.length<=na by
   rw[hL]
   unfold Re
   refine Yb (List.length_filter_le _ _) ?_
   rw[Qq]
   omega)
  have HLL:=Lh hL;obtain⟨A8,c8,rfl,yn,hl9⟩:=Zo HO.o;obtain⟨nl,Ly⟩:=Xe L.length;rw[<-Ly] at HO HLE yn |-;have iL:=Lh Ly;clear hL Ly;by_cases hja:j<na
  ·have Mn:j<a.length:=by rw[<-HNA.o];exact hja
   obtain⟨b2,o2,rfl,_,Ja,Uy⟩:=(HA.o.below HBW.o).wd Mn;have HMT:=Lh (qdH (b:=b) Mn);obtain⟨x,hx⟩:=Xe (a[j]);rw[<-hx,<-HLL.o] at HMT;rw[<-hx] at Uy;clear hx Mn;obtain⟨n,hn,hnN,hn0⟩:=pZ.o x;have hlk:=(HM.o.below HBT.o (by omega:w.heap.size<w.heap.size+1)).lookup Kd Du x;rw[hn] at hlk;by_cases Ua:x∈b
   ·have Dg:(0:Int)<(n:Int):=by
     have:n≠0:=fun e=>(hn0.1 e) Ua;omega
    have zbE:=Lh (show Re (a.take (j+1)) b=L++[x] by rw[HMT.o,if_pos Ua]);have HWS:=Lh (show w.heap.size+1<=wr.heap.size by have:=HBT.o.size;have:=HZ.o;omega);have hle:=HLE.o;clear hn0 hn Ua;go_wp2_with (at_builtin;refine Zz (m:=1) (n:=nl) aO rfl rfl rfl rfl (HO.o.alloc _) (Rd.row (B:=wr.heap.size+1) (Xn wr _) (by omega)) rfl (fun u hu=>by simp at hu;subst hu;rfl) (by unfold maxLen;omega) (by omega) (by rw[Xs];have:=HWS.o;omega) ?_);intro v' w' ho hg _ _;have HO2:=Lh (show w'.ownsRow (w.heap.size+1) 9 1 v' (Re (a.take (j+1)) b).length (Jf (Re (a.take (j+1)) b)) by
     rw[zbE.o,Qe,<-iL.o]
     simp only[Jf,Qt]
     exact ho)
    have HB3:=Lh (Zt (HBT.o.alloc (by have:=HWS.o;omega) _) hg (HO.o.alloc _) (Ya _) (by rw[Xs];have:=HWS.o;omega));obtain⟨A6,c6,rfl,hl7,qmD⟩:=Zo ho;clear ho hg hlk;go_wp2_with fail;go_roundg (gk - 1);exact⟨j+1,by omega,by omega,by go_num,HO2.o,HB3.o⟩;omega
   ·have hz:n=0:=hn0.2 Ua;subst hz;have zbE:=Lh (show Re (a.take (j+1)) b=L by rw[HMT.o,if_neg Ua,List.append_nil]);have HO2:=Lh (show wr.ownsRow (w.heap.size+1) 9 1 (.slice A8 nl c8) (Re (a.take (j+1)) b).length (Jf (Re (a.take (j+1)) b)) by rw[zbE.o,<-iL.o];exact HO.o);clear hn0 hn Ua;go_wp2_with fail;go_roundg (gk - 1);exact⟨j+1,by omega,by omega,by go_num,HO2.o,HBT.o⟩;omega
  ·have Mg:=Lh (show Re a b=L by rw[HLL.o,Qd (by rw[<-HNA.o];omega)]);go_wp2_with fail;go_ret;refine⟨_,rfl,?_,HBW.o⟩;rw[Mg.o,<-iL.o];exact Fr HO.o (by omega)
def qpN(w:World)(o:Option Wd)(e:Ending)(w':World):Prop:=Below w.heap.size w w'/\match o with
 |none=>e=.returned (.tuple #[.string ⟨#[]⟩,.bool false])
 |some x=>e=.returned (.tuple #[wv x,.bool true])
theorem fm(a b:List Wd):Dh a b=(Re a b).head? := rfl
theorem zw(g:Nat)(A B:Option Addr)(ca cb:Nat)(a b:List Wd)(w:World)(h0:w.cell? ⟨g,0,none⟩=some (.slice A a.length ca))(h1:w.cell? ⟨g,1,none⟩=some (.slice B b.length cb))(ha:Je eW w w.heap.size (.slice A a.length ca) a)(hb:Je eW w w.heap.size (.slice B b.length cb) b)(la:a.length<=1048576)(lb:b.length<=1048576) :
  Calls Tryz.prog 94 #[.slice (some ⟨g,0,none⟩) 2 2] w (qpN w (Dh a b)):=by
 have HME:=Lh (qkP A B ca cb a b w ha hb la lb);rw[fm];have HLE:=Lt ((Re a b).length<=1048576) (Yb (List.length_filter_le _ _) la);obtain⟨L,hL⟩:=Xe (Re a b);rw[<-hL] at HME HLE |-;have hgl:=Zl w _ h0;simp only at hgl;clear hL ha hb;obtain⟨na,hna⟩:∃ n,n=a.length:=⟨_,rfl⟩;obtain⟨nb,hnb⟩:∃ n,n=b.length:=⟨_,rfl⟩;rw[<-hna] at HME la h0;rw[<-hnb] at HME lb h1;clear hna hnb;go_enter Tryz.func94,Tryz.ntmps94;go_wp2_with fail;go_loopg [13,4] 1 (fun left v13 v4 wr=>(v13=.int .i64 0/\v4=.slice A na ca/\wr=w/\left=1)\/(v13=.int .i64 1/\Hid (wr.ownsRow w.heap.size 9 1 v4 L.length (Jf L))/\Hid (Below w.heap.size w wr)));exact .inl ⟨rfl,rfl,rfl,rfl⟩;rcases hrel with ⟨rfl,rfl,rfl,hgk⟩ | ⟨rfl,HO,HB⟩
 ·go_wp2_with fail;refine HME.o.mono ?_;rintro e w2 ⟨v,rfl,hown,Ja⟩;have HO:=Lh hown;have HB:=Lh Ja;obtain⟨A2,c2,rfl,_,_⟩:=Zo hown;clear hown Ja;go_wp2_with fail;go_roundg 0;exact .inr ⟨by go_num,HO.o,HB.o⟩;omega
 ·obtain⟨A2,c2,rfl,wR,dD⟩:=Zo HO.o;cases L with
  |nil =>
   go_wp2_with fail
   go_ret2
   exact⟨HB.o,rfl⟩
  |cons x L =>
   have ru:=Lh (Rd.of_own HO.o);obtain⟨b2,o2,rfl,pM,Zm⟩:=ru.o.at_ (k:=0) (by rw[rA];simp);have zpO:wr.cell? ⟨b2,o2,none⟩=some (wv x):=by rw[Yp] at Zm;exact Zm
   have hne:(((x::L).length:Int)==0)=false:=by simp;omega
   clear Zm;obtain⟨nl,Ly⟩:=Xe ((x::L).length);have Dg:0<nl:=by rw[Ly];simp
   rw[<-Ly] at hne wR |-;clear Ly;go_wp2_with fail
   go_ret2
   exact⟨HB.o,rfl⟩
open Go.RowKit
section
variable {P:Program} {ops:Array Oper} {I:World->Prop} {G:List Nat}
theorem f_{Q:Act->World->Prop}(n:Nat){k:Nat}{l:List Oper}{a:Act}{w:World}(hG:(List.range' k n).all (fun i=>!G.contains i)=true)
  (h:∀ Q':Exit->Act->World->Prop,(∀ a w,Stop (TextI.wpS P ops I G Q (k+n) (l.drop n) a w)->Q' .normal a w)->wpList P ops Q' (l.take n) a w):Stop (TextI.wpS P ops I G Q k l a w) :=
 ⟨TextI.wpS_seg n k l a w hG fun Q' hQ'=>h Q' fun a w hh=>hQ' a w hh.o⟩
theorem i_{Q:Act->World->Prop}{k:Nat}{o:Oper}{r:List Oper}{a:Act}{w:World}
  (h:∀ Q':Exit->Act->World->Prop,(∀ a' w',I w'/\Stop (TextI.wpS P ops I G Q (k+1) r a' w')->Q' .normal a' w')->wpList P ops Q' [o] a w):Stop (TextI.wpS P ops I G Q k (o::r) a w) :=
 ⟨TextI.wpS_one fun Q' hQ'=>h Q' fun a w hh=>hQ' a w ⟨hh.1,hh.2.o⟩⟩
theorem qrA{Q:Act->World->Prop}{k:Nat}{a:Act}{w:World}(h:Q a w):Stop (TextI.wpS P ops I G Q k [] a w):=⟨h⟩
theorem qqZ{id:Nat}{Q:Exit->Act->World->Prop}{a:Act}{w:World}{l:List Oper}(G LD ex:List Nat)(I:World->Prop)(hI:I w.drew)(hm:P.follows .mixedOrders=true)(hB:Text.growB P l.toArray G LD ex=true)
  (h:Stop (TextI.wpS P l.toArray I G (fun a' w'=>Text.chk l.toArray ex a'=true/\TextI.oldAll P l.toArray I a' LD/\Q .normal a' w') 0 l a w.drew)):(Code.region id l.toArray true).wp P Q a w :=
 TextI.wp_inv G LD ex I hI hm hB h.o
end
theorem np{P:Program}{w:World}{ty e:TypeId}{v:Value}{p:Addr}(hu:P.underlying ty=some (.slice e))(hc:w.cell? p=some v):(Instr.loadAt ty (.pointer (some p))).run P w=.ok v w:=by
 have mP:(isAgg ty).run P w=.ok false w:=by
  unfold isAgg;rw[Zf,run_underlying hu w];rfl
 simp[Instr.loadAt,Instr.sureAddr,loadVar,mP,hc]
theorem qdP{P:Program}{w:World}{ty k e:TypeId}{v:Value}{p:Addr}(hu:P.underlying ty=some (.map k e))(hc:w.cell? p=some v):(Instr.loadAt ty (.pointer (some p))).run P w=.ok v w:=by
 have mP:(isAgg ty).run P w=.ok false w:=by
  unfold isAgg;rw[Zf,run_underlying hu w];rfl
 simp[Instr.loadAt,Instr.sureAddr,loadVar,mP,hc]
end Go.Proofs.YtmaojnmnbpomeaaGreatDoor
