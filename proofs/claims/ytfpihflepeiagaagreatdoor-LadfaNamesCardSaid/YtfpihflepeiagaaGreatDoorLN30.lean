/- Texts of this proof joined: MacW4, TrieW, TrieSort, InRound. -/
import Derived.Test.YtfpihflepeiagaaGreatDoorLN29
import Derived.Test.YtfpihflepeiagaaGreatDoorLN06
import Derived.Test.YtfpihflepeiagaaGreatDoorLN26
import Derived.Test.YtfpihflepeiagaaGreatDoorLN15
import Derived.Test.YtfpihflepeiagaaGreatDoorSortS
import Derived.Shelf.SlSortCmp.NoneTotal
import Derived.Sort.OwnSorted
import Derived.RangeFuncNested
import Derived.RangeFuncBound
import Derived.RangeFuncCalls
import Derived.RangeFuncLeaves
import Derived.Shelf.Abstract
import Derived.Shelf.RegionOpen
import Derived.WalkKit
import Derived.OwnWalkIn
import Derived.TacticsInMore
import Derived.LoopNIn
import Derived.LoopIn
import Derived.Test.YtfpihflepeiagaaGreatDoorLN01
import Derived.Test.YtfpihflepeiagaaGreatDoorLN05
namespace Go.Proofs.YtfpihflepeiagaaGreatDoor

noncomputable def useB (m:Mch) (i:Nat):Bool:=@decide (UseM m i) (Classical.propDecidable _)
noncomputable def alikeB (m:Mch) (i j:Nat):Bool:=@decide (Alike m i j) (Classical.propDecidable _)
theorem useB_iff (m:Mch) (i:Nat):useB m i=true↔UseM m i:=by
 unfold useB
 exact @decide_eq_true_iff _ (Classical.propDecidable _)
theorem useB_is (m:Mch):UseIs m (useB m):=fun i _=>useB_iff m i
theorem alikeB_iff (m:Mch) (i j:Nat):alikeB m i j=true↔Alike m i j:=by
 unfold alikeB
 exact @decide_eq_true_iff _ (Classical.propDecidable _)
theorem alikeB_is (m:Mch):AlikeIs m (alikeB m):=fun i j _ _=>alikeB_iff m i j
noncomputable abbrev bfsM (m:Mch) (n:Nat):List Nat×Mch:=bfsN m (useB m) (alikeB m) n
noncomputable def miniM (m:Mch):Mch:=if validM m 9223372036854775807=true then (if useB m 0=true then (bfsM m m.length).2 else [(-1,[])]) else []
theorem bfs_stay {m:Mch} {use:Nat→Bool} {a:Nat→Nat→Bool} {n:Nat} (h:(bfsN m use a n).1.length≤n):∀ k,bfsN m use a (n+k)=bfsN m use a n
 |0=>rfl
 |k+1=>by
  have ih:=bfs_stay h k
  rw[←Nat.add_assoc]
  rw[show bfsN m use a (n+k+1)=_ from rfl]
  simp only[bfsN]
  rw[ih,List.getElem?_eq_none (by omega)]
theorem bfs_end {m:Mch} (hg:GoodM m) (h0:UseM m 0) {n:Nat} (h:(bfsM m n).1.length=n):bfsM m m.length=bfsM m n:=by
 have h1:=qOk_len hg (bfs_ok hg (useB_is m) (alikeB_is m) h0 n).ok
 have h2:=bfs_stay (m:=m) (use:=useB m) (a:=alikeB m) (n:=n) (by show (bfsM m n).1.length≤n;omega) (m.length - n)
 have h3:(bfsM m n).1.length≤m.length:=h1
 rw[show n+(m.length - n)=m.length by omega] at h2
 exact h2
structure LeastM (m M:Mch):Prop where
 good:GoodM M
 tell:∀ l,tellM M 0 l=tellM m 0 l
 apart:∀ i k,i<M.length→k<M.length→i≠k→∃ l,tellM M i l≠tellM M k l
 tells:∀ i,0<i→i<M.length→∃ l,tellM M i l≠-1
 zero:(∀ l,tellM M 0 l=-1)→edM M 0=[]
 ord:∀ k<M.length,∃ i,ordE 1 ((M.take k).flatMap fun s=>s.2)=some i∧k<i
 ordl:∃ i,ordE 1 (M.flatMap fun s=>s.2)=some i
 new:∀ k,0<k→k<M.length→∃ p<k,∃ t,(t,(k:Int))∈edM M p
 term:∀ k<M.length,∀ e∈edM M k,∃ i<m.length,∃ d∈edM m i,e.1=d.1
theorem bfs_done {m:Mch} (hg:GoodM m) (h0:UseM m 0):(bfsM m m.length).2.length=(bfsM m m.length).1.length:=by
 have h:=bfs_ok hg (useB_is m) (alikeB_is m) h0 m.length
 have h1:=qOk_len hg h.ok
 have h2:(bfsM m m.length).2.length=min m.length (bfsM m m.length).1.length:=h.len
 have h3:(bfsM m m.length).1.length≤m.length:=h1
 omega
theorem bfs_least {m:Mch} (hg:GoodM m) (h0:UseM m 0):LeastM m (bfsM m m.length).2:=by
 have h:=bfs_ok hg (useB_is m) (alikeB_is m) h0 m.length
 have hl:=bfs_done hg h0
 have hu:=useB_is m
 change BfsOk m (useB m) m.length (bfsM m m.length).1 (bfsM m m.length).2 at h
 generalize (bfsM m m.length).1=q at h hl
 generalize (bfsM m m.length).2=M at h hl
 have hpos:0<M.length:=by rw[hl];exact (List.getElem?_eq_some_iff.1 h.ok.zero).1
 have hG:GoodM M:=by
  refine⟨List.length_pos_iff.1 hpos,fun k hk=>?_,fun k hk e he=>?_,fun k hk=>?_⟩
  ·obtain⟨x,h1,h2,-⟩:=h.st k hk
   rw[h2]
   exact hg.out x (reach_lt hg (h.ok.use x (List.mem_of_getElem? h1)).1)
  ·obtain⟨x,h1,h2,h3,-⟩:=h.st k hk
   obtain⟨y,i,z,g1,g2,g3,g4,g5⟩:=h3 e.1 e.2 he
   have:=(hg.tos x (reach_lt hg (h.ok.use x (List.mem_of_getElem? h1)).1) _ g1).1
   have h6:=(List.getElem?_eq_some_iff.1 g4).1
   simp only at this
   exact⟨this,by omega,by omega⟩
  ·obtain⟨x,h1,h2,h3,h4,h5⟩:=h.st k hk
   exact h5
 have key:∀ (l:List Int) (k x:Nat),k<M.length→q[k]? = some x→tellM M k l=tellM m x l:=by
  intro l
  induction l with
  |nil =>
   intro k x hk hx
   obtain⟨x',h1,h2,-⟩:=h.st k hk
   rw[hx] at h1
   injection h1 with h1
   subst h1
   exact h2
  |cons b r ih =>
   intro k x hk hx
   obtain⟨x',h1,h2,h3,h4,h5⟩:=h.st k hk
   rw[hx] at h1
   injection h1 with h1
   subst h1
   have hux:=h.ok.use x (List.mem_of_getElem? hx)
   have hxl:=reach_lt hg hux.1
   by_cases hc:∃ y,stepI m x b=some y∧useB m y=true
   ·obtain⟨y,hy,uy⟩:=hc
    have he:=(step_edge hg hxl b y).1 hy
    obtain⟨n,hn⟩:=h4 _ he (by simpa using uy)
    simp only at hn
    obtain⟨y',i,z,g1,g2,g3,g4,g5⟩:=h3 b n hn
    have hy':=(step_edge hg hxl b y').2 g1
    rw[hy] at hy'
    injection hy' with hy'
    subst hy'
    subst g3
    have hsM:=(step_edge hG hk b i).2 hn
    rw[tellM_cons,tellM_cons,hy,hsM]
    simp only
    rw[←g5 r]
    exact ih i z (step_lt hsM) g4
   ·rw[step_tell hg hu hux.1 b r hc,tellM_cons]
    cases hsM:stepI M k b with
    |none=>rfl
    |some i =>
     exfalso
     obtain⟨y',j,z,g1,g2,g3,g4,g5⟩:=h3 b _ ((step_edge hG hk b i).1 hsM)
     exact hc ⟨y',(step_edge hg hxl b y').2 g1,(useB_iff m y').2 g2⟩
 have hget:∀ k<M.length,∃ x,q[k]? = some x:=fun k hk=>⟨_,List.getElem?_eq_getElem (by omega)⟩
 refine⟨hG,fun l=>key l 0 0 hpos h.ok.zero,?_,?_,?_,?_,?_,?_,?_⟩
 ·intro i k hi hk hne
  obtain⟨x,hx⟩:=hget i hi
  obtain⟨y,hy⟩:=hget k hk
  refine Classical.byContradiction fun hno=>?_
  have hal:Alike m x y:=fun l=>by
   rw[←key l i x hi hx,←key l k y hk hy]
   exact Classical.byContradiction fun h2=>hno ⟨l,h2⟩
  have hp:=List.pairwise_iff_getElem.1 h.ok.apart
  obtain⟨a1,a2⟩:=List.getElem?_eq_some_iff.1 hx
  obtain⟨b1,b2⟩:=List.getElem?_eq_some_iff.1 hy
  rcases Nat.lt_or_gt_of_ne hne with hlt | hlt
  ·have:=hp i k a1 b1 hlt
   rw[a2,b2] at this
   exact this hal
  ·have:=hp k i b1 a1 hlt
   rw[a2,b2] at this
   exact this (alike_symm hal)
 ·intro i _ hi
  obtain⟨x,hx⟩:=hget i hi
  obtain⟨l,hl2⟩:=(h.ok.use x (List.mem_of_getElem? hx)).2
  exact⟨l,by rw[key l i x hi hx];exact hl2⟩
 ·intro hall
  obtain⟨l,hl2⟩:=h0.2
  exact absurd (by rw[←key l 0 0 hpos h.ok.zero];exact hall l) hl2
 ·intro k hk
  obtain⟨i,h1,h2,h3⟩:=h.ord k (by omega)
  exact⟨i,h1,h2 (by omega)⟩
 ·obtain⟨i,h1,h2,h3⟩:=h.ord M.length (Nat.le_refl _)
  rw[List.take_of_length_le (Nat.le_refl _)] at h1
  exact⟨i,h1⟩
 ·intro k h1 h2
  exact h.new k h1 (by omega)
 ·intro k hk e he
  obtain⟨x,h1,h2,h3,-⟩:=h.st k hk
  obtain⟨y,i,z,g1,-⟩:=h3 e.1 e.2 he
  exact⟨x,reach_lt hg (h.ok.use x (List.mem_of_getElem? h1)).1,_,g1,rfl⟩
theorem one_least {m:Mch} (h0:¬ UseM m 0):LeastM m [(-1,[])]:=by
 have ht:∀ l,tellM m 0 l=-1:=fun l=>Classical.byContradiction fun h=>h0 ⟨reach_zero m,l,h⟩
 have hto:∀ l,tellM [(-1,[])] 0 l=-1:=by
  intro l
  cases l with
  |nil=>rfl
  |cons b r=>rfl
 refine⟨⟨by simp,?_,?_,?_⟩,fun l=>by rw[ht l,hto l],?_,?_,fun _=>rfl,?_,⟨1,rfl⟩,?_,?_⟩
 ·intro k hk
  simp only[List.length_singleton] at hk
  have:k=0:=by omega
  subst this
  decide
 ·intro k hk e he
  simp only[List.length_singleton] at hk
  have:k=0:=by omega
  subst this
  simp[edM] at he
 ·intro k hk
  simp only[List.length_singleton] at hk
  have:k=0:=by omega
  subst this
  exact List.Pairwise.nil
 ·intro i k hi hk hne
  simp only[List.length_singleton] at hi hk
  omega
 ·intro i h1 hi
  simp only[List.length_singleton] at hi
  omega
 ·intro k hk
  simp only[List.length_singleton] at hk
  have:k=0:=by omega
  subst this
  exact⟨1,rfl,by omega⟩
 ·intro k h1 hk
  simp only[List.length_singleton] at hk
  omega
 ·intro k hk e he
  simp only[List.length_singleton] at hk
  have:k=0:=by omega
  subst this
  simp[edM] at he
theorem mini_least {m:Mch} (h:validM m 9223372036854775807=true):LeastM m (miniM m):=by
 unfold miniM
 rw[if_pos h]
 have hg:=valid_good h
 by_cases h0:useB m 0=true
 ·rw[if_pos h0]
  exact bfs_least hg ((useB_iff m 0).1 h0)
 ·rw[if_neg h0]
  exact one_least fun h1=>h0 ((useB_iff m 0).2 h1)
theorem mini_bad {m:Mch} (h:validM m 9223372036854775807≠true):miniM m=[]:=by
 unfold miniM
 rw[if_neg h]
end Go.Proofs.YtfpihflepeiagaaGreatDoor
namespace Go.Proofs.YtfpihflepeiagaaGreatDoor

abbrev RowW:=Int×Wd×Int
def byI (l:Wd):List Int:=l.map fun c=>(c.toNat:Int)
def outOf (rows:List RowW) (w:Wd):Int:=rows.foldl (fun o r=>if r.2.1=w∧o<0 then r.2.2 else o) (-1)
def kidsT (F:List Wd) (w:Wd):List (Int×Int):=(F.zipIdx.filter fun p=>decide (p.1≠[]∧p.1.dropLast=w)).map fun p=>((p.1.getLastD 0).toNat,(p.2:Int))
def trieM (rows:List RowW) (F:List Wd):Mch:=F.map fun w=>(outOf rows w,kidsT F w)
def slLt (a b:Wd):Prop:=a.length<b.length∨a.length=b.length∧a<b
structure Fronts (rows:List RowW) (F:List Wd):Prop where
 mem:∀ w,w∈F↔w=[]∨∃ r∈rows,w <+: r.2.1
 asc:F.Pairwise slLt
theorem slLt_irrefl (a:Wd):¬ slLt a a:=by
 rintro (h | ⟨_,h⟩)
 ·omega
 ·exact List.lt_irrefl _ h
theorem slLt_asymm {a b:Wd} (h:slLt a b):¬ slLt b a:=by
 rintro (h2 | ⟨h3,h2⟩)
 ·rcases h with h | ⟨h,_⟩ <;> omega
 ·rcases h with h | ⟨_,h⟩
  ·omega
  ·exact List.lt_asymm h h2
theorem fronts_zero {rows:List RowW} {F:List Wd} (h:Fronts rows F):F[0]? = some []:=by
 obtain⟨i,hi,e⟩:=List.getElem_of_mem ((h.mem []).2 (.inl rfl))
 by_cases h0:i=0
 ·subst h0
  rw[List.getElem?_eq_getElem hi,e]
 ·exfalso
  have:=List.pairwise_iff_getElem.1 h.asc 0 i (by omega) hi (by omega)
  rw[e] at this
  rcases this with h2 | ⟨h2,h3⟩
  ·simp at h2
  ·exact absurd h3 (List.not_lt_nil _)
theorem fronts_unique {rows:List RowW} {F G:List Wd} (h:Fronts rows F) (h2:Fronts rows G):F=G:=by
 have key:∀ (F G:List Wd),F.Pairwise slLt→G.Pairwise slLt→(∀ w,w∈F↔w∈G)→F=G:=by
  intro F
  induction F with
  |nil =>
   intro G _ _ hm
   cases G with
   |nil=>rfl
   |cons a r=>exact absurd ((hm a).2 (List.mem_cons_self ..)) (by simp)
  |cons a r ih =>
   intro G hF hG hm
   cases G with
   |nil=>exact absurd ((hm a).1 (List.mem_cons_self ..)) (by simp)
   |cons b s =>
    obtain⟨p1,q1⟩:=List.pairwise_cons.1 hF
    obtain⟨p2,q2⟩:=List.pairwise_cons.1 hG
    have hab:a=b:=by
     rcases List.mem_cons.1 ((hm a).1 (List.mem_cons_self ..)) with e | e
     ·exact e
     ·rcases List.mem_cons.1 ((hm b).2 (List.mem_cons_self ..)) with e2 | e2
      ·exact e2.symm
      ·exact absurd (p1 b e2) (slLt_asymm (p2 a e))
    subst hab
    congr 1
    refine ih s q1 q2 fun e=>⟨fun he=>?_,fun he=>?_⟩
    ·rcases List.mem_cons.1 ((hm e).1 (List.mem_cons_of_mem _ he)) with e2 | e2
     ·subst e2
      exact absurd (p1 e he) (slLt_irrefl e)
     ·exact e2
    ·rcases List.mem_cons.1 ((hm e).2 (List.mem_cons_of_mem _ he)) with e2 | e2
     ·subst e2
      exact absurd (p2 e he) (slLt_irrefl e)
     ·exact e2
 exact key F G h.asc h2.asc fun w=>by rw[h.mem,h2.mem]
theorem kids_mem {F:List Wd} {w:Wd} {t n:Int}:(t,n)∈kidsT F w↔∃ (c:UInt8) (j:Nat),F[j]? = some (w++[c])∧t=(c.toNat:Int)∧n=(j:Int):=by
 unfold kidsT
 simp only[List.mem_map,List.mem_filter,decide_eq_true_eq,Prod.mk.injEq]
 constructor
 ·rintro⟨⟨x,j⟩,⟨h1,h2,h3⟩,rfl,rfl⟩
  have hj:=List.mem_zipIdx_iff_getElem?.1 h1
  simp only at hj h2 h3 ⊢
  refine⟨x.getLastD 0,j,?_,rfl,rfl⟩
  rw[hj,←h3]
  obtain⟨y,rfl⟩:∃ y:Wd×UInt8,x=y.1++[y.2]:=⟨(x.dropLast,x.getLast h2),(List.dropLast_concat_getLast h2).symm⟩
  simp
 ·rintro⟨c,j,h1,rfl,rfl⟩
  exact⟨(w++[c],j),⟨List.mem_zipIdx_iff_getElem?.2 h1,by simp,by simp⟩,by simp,rfl⟩
theorem wd_snoc_lt {w:Wd} {a b:UInt8} (h:slLt (w++[a]) (w++[b])):a<b:=by
 rcases h with h | ⟨-,h⟩
 ·simp at h
 ·induction w with
  |nil =>
   simp only[List.nil_append] at h
   rcases List.cons_lt_cons_iff.1 h with h | ⟨_,h⟩
   ·exact h
   ·exact absurd h (List.not_lt_nil _)
  |cons x r ih =>
   simp only[List.cons_append] at h
   rcases List.cons_lt_cons_iff.1 h with h | ⟨_,h⟩
   ·exact absurd h (by simp)
   ·exact ih h
theorem kids_rise {rows:List RowW} {F:List Wd} (h:Fronts rows F) (w:Wd):(kidsT F w).Pairwise fun a b=>a.1<b.1:=by
 unfold kidsT
 rw[List.pairwise_map]
 have h1:F.zipIdx.Pairwise fun a b=>slLt a.1 b.1:=by
  have:=h.asc
  rw[←List.zipIdx_map_fst 0 F] at this
  exact List.pairwise_map.1 this
 refine (List.Pairwise.filter _ h1).imp_of_mem ?_
 intro a b ha hb hab
 simp only[List.mem_filter,decide_eq_true_eq] at ha hb
 obtain⟨_,ha1,ha2⟩:=ha
 obtain⟨_,hb1,hb2⟩:=hb
 have ea:a.1=w++[a.1.getLastD 0]:=by
  obtain⟨y,hy⟩:∃ y:Wd×UInt8,a.1=y.1++[y.2]:=⟨(a.1.dropLast,a.1.getLast ha1),(List.dropLast_concat_getLast ha1).symm⟩
  rw[←ha2,hy]
  simp
 have eb:b.1=w++[b.1.getLastD 0]:=by
  obtain⟨y,hy⟩:∃ y:Wd×UInt8,b.1=y.1++[y.2]:=⟨(b.1.dropLast,b.1.getLast hb1),(List.dropLast_concat_getLast hb1).symm⟩
  rw[←hb2,hy]
  simp
 rw[ea,eb] at hab
 have:=UInt8.lt_iff_toNat_lt.1 (wd_snoc_lt hab)
 omega
theorem outOf_low {rows:List RowW} (h:∀ r∈rows,0≤r.2.2) (w:Wd):outOf rows w=(match rows.find? fun r=>decide (r.2.1=w) with | some r=>r.2.2 | none=>-1):=by
 unfold outOf
 have stay:∀ (rows:List RowW) (o:Int),0≤o→rows.foldl (fun o r=>if r.2.1=w∧o<0 then r.2.2 else o) o=o:=by
  intro rows
  induction rows with
  |nil=>intro o _;rfl
  |cons r l ih =>
   intro o ho
   rw[List.foldl_cons,if_neg (by omega)]
   exact ih o ho
 induction rows with
 |nil=>rfl
 |cons r l ih =>
  rw[List.foldl_cons]
  by_cases he:r.2.1=w
  ·rw[if_pos ⟨he,by omega⟩,List.find?_cons_of_pos (by simp[he]),stay l _ (h r (List.mem_cons_self ..))]
  ·rw[if_neg (fun h2=>he h2.1),List.find?_cons_of_neg (by simp[he])]
   exact ih fun x hx=>h x (List.mem_cons_of_mem _ hx)
theorem outOf_ge {rows:List RowW} (h:∀ r∈rows,0≤r.2.2) (w:Wd):-1≤outOf rows w:=by
 rw[outOf_low h]
 split
 ·rename_i r hr
  have:=h r (List.mem_of_find?_eq_some hr)
  omega
 ·omega
theorem trie_get {rows:List RowW} {F:List Wd} {k:Nat} {w:Wd} (h:F[k]? = some w):outM (trieM rows F) k=outOf rows w∧edM (trieM rows F) k=kidsT F w:=by
 unfold outM edM trieM
 rw[List.getD_eq_getElem?_getD,List.getElem?_map,h]
 exact⟨rfl,rfl⟩
theorem trie_len (rows:List RowW) (F:List Wd):(trieM rows F).length=F.length:=by simp[trieM]
theorem trie_good {rows:List RowW} {F:List Wd} (hF:Fronts rows F) (h:∀ r∈rows,0≤r.2.2):GoodM (trieM rows F):=by
 have hget:∀ k<(trieM rows F).length,∃ w,F[k]? = some w:=fun k hk=>by rw[trie_len] at hk;exact⟨_,List.getElem?_eq_getElem hk⟩
 refine⟨?_,fun k hk=>?_,fun k hk e he=>?_,fun k hk=>?_⟩
 ·have:=(List.getElem?_eq_some_iff.1 (fronts_zero hF)).1
  intro e
  have h2:=trie_len rows F
  rw[e] at h2
  simp at h2
  omega
 ·obtain⟨w,hw⟩:=hget k hk
  rw[(trie_get hw).1]
  exact outOf_ge h w
 ·obtain⟨w,hw⟩:=hget k hk
  rw[(trie_get hw).2] at he
  obtain⟨c,j,h1,h2,h3⟩:=kids_mem.1 he
  have:=(List.getElem?_eq_some_iff.1 h1).1
  rw[trie_len]
  omega
 ·obtain⟨w,hw⟩:=hget k hk
  rw[(trie_get hw).2]
  exact kids_rise hF w
theorem trie_term {rows:List RowW} {F:List Wd} (hF:Fronts rows F) {n:Nat} (hb:∀ r∈rows,∀ c∈r.2.1,c.toNat<n):∀ k<(trieM rows F).length,∀ e∈edM (trieM rows F) k,e.1<(n:Int):=by
 intro k hk e he
 rw[trie_len] at hk
 rw[(trie_get (List.getElem?_eq_getElem hk)).2] at he
 obtain⟨c,j,h1,h2,h3⟩:=kids_mem.1 he
 have hm:=(hF.mem _).1 (List.mem_of_getElem? h1)
 rcases hm with hm | ⟨r,hr,hp⟩
 ·simp at hm
 ·have:=hb r hr c (hp.subset (by simp))
  omega
theorem trie_valid {rows:List RowW} {F:List Wd} (hF:Fronts rows F) (h:∀ r∈rows,0≤r.2.2):validM (trieM rows F) 9223372036854775807=true :=
 good_valid (trie_good hF h) fun k hk e he=>by
  have:=trie_term hF (n:=256) (fun r _ c _=>c.toNat_lt) k hk e he
  omega
theorem trie_tell {rows:List RowW} {F:List Wd} (hF:Fronts rows F) (h:∀ r∈rows,0≤r.2.2) (l:Wd):tellM (trieM rows F) 0 (byI l)=outOf rows l:=by
 have hg:=trie_good hF h
 have key:∀ (l:Wd) (k:Nat) (w:Wd),F[k]? = some w→tellM (trieM rows F) k (byI l)=if w++l∈F then outOf rows (w++l) else -1:=by
  intro l
  induction l with
  |nil =>
   intro k w hw
   rw[List.append_nil,if_pos (List.mem_of_getElem? hw)]
   exact (trie_get hw).1
  |cons c r ih =>
   intro k w hw
   have hk:k<(trieM rows F).length:=by rw[trie_len];exact (List.getElem?_eq_some_iff.1 hw).1
   show tellM _ k ((c.toNat:Int) :: byI r)=_
   rw[tellM_cons]
   cases hs:stepI (trieM rows F) k (c.toNat:Int) with
   |some j =>
    have he:=(step_edge hg hk _ j).1 hs
    rw[(trie_get hw).2] at he
    obtain⟨c',j',h1,h2,h3⟩:=kids_mem.1 he
    have hc:c'=c:=by
     refine UInt8.toNat_inj.1 ?_
     omega
    subst hc
    have hj:j'=j:=by omega
    subst hj
    simp only
    rw[ih j' _ h1]
    simp
   |none =>
    simp only
    rw[if_neg]
    intro hm
    have h1:w++[c]∈F:=by
     rcases (hF.mem _).1 hm with h1 | ⟨x,hx,hp⟩
     ·simp at h1
     ·refine (hF.mem _).2 (.inr ⟨x,hx,(List.IsPrefix.trans ?_ hp)⟩)
      exact⟨r,by simp⟩
    obtain⟨j,hj⟩:=List.mem_iff_getElem?.1 h1
    have:stepI (trieM rows F) k (c.toNat:Int)=some j:=(step_edge hg hk _ j).2 (by rw[(trie_get hw).2];exact kids_mem.2 ⟨c,j,hj,rfl,rfl⟩)
    rw[hs] at this
    cases this
 rw[key l 0 [] (fronts_zero hF)]
 rw[List.nil_append]
 by_cases hm:l∈F
 ·rw[if_pos hm]
 ·rw[if_neg hm,outOf_low h]
  split
  ·rename_i r hr
   have h1:=List.mem_of_find?_eq_some hr
   have h2:=List.find?_some hr
   simp only[decide_eq_true_eq] at h2
   exact absurd ((hF.mem l).2 (.inr ⟨r,h1,by rw[h2];exact List.prefix_refl _⟩)) hm
  ·rfl
end Go.Proofs.YtfpihflepeiagaaGreatDoor
namespace Go.Proofs.YtfpihflepeiagaaGreatDoor
open Go.RowKit Go.Sort

def cmpF (a b:Wd):Int:=if a.length=b.length then Lib.compareBytes a b else Lib.compareInt a.length b.length
theorem cmpF_lt (a b:Wd):cmpF a b<0↔slLt a b:=by
 unfold cmpF slLt
 split
 ·rename_i h
  rw[compare_lt]
  constructor
  ·exact fun h2=>.inr ⟨h,h2⟩
  ·rintro (h2 | ⟨_,h2⟩)
   ·omega
   ·exact h2
 ·rename_i h
  unfold Lib.compareInt
  split
  ·rename_i h1
   simp only[Int.reduceNeg,Int.reduceLT,true_iff]
   exact .inl (by omega)
  ·rename_i h1
   constructor
   ·intro h2
    split at h2 <;> omega
   ·rintro (h2 | ⟨h2,_⟩) <;> omega
theorem slLt_trans {a b c:Wd} (h:slLt a b) (k:slLt b c):slLt a c:=by
 rcases h with h | ⟨h1,h2⟩ <;> rcases k with k | ⟨k1,k2⟩
 ·exact .inl (by omega)
 ·exact .inl (by omega)
 ·exact .inl (by omega)
 ·exact .inr ⟨by omega,List.lt_trans h2 k2⟩
theorem slLt_tri (a b:Wd):slLt a b∨a=b∨slLt b a:=by
 rcases Nat.lt_trichotomy a.length b.length with h | h | h
 ·exact .inl (.inl h)
 ·by_cases h1:a<b
  ·exact .inl (.inr ⟨h,h1⟩)
  ·by_cases h2:b<a
   ·exact .inr (.inr (.inr ⟨h.symm,h2⟩))
   ·exact .inr (.inl (List.le_antisymm (List.not_lt.1 h2) (List.not_lt.1 h1)))
 ·exact .inr (.inr (.inl h))
theorem ltOf_cmpW (x y:Wd):ltOf cmpF x y=true↔slLt x y:=by
 unfold ltOf
 rw[decide_eq_true_eq]
 exact cmpF_lt x y
theorem ltOf_cmpF (x y:Wd):ltOf cmpF x y=false↔¬ slLt x y:=by
 rw[←ltOf_cmpW,Bool.not_eq_true]
theorem swoF:SWO (ltOf cmpF) where
 irrefl:=fun x=>by rw[ltOf_cmpF];exact slLt_irrefl x
 trans:=fun x y z h1 h2=>by rw[ltOf_cmpW] at *;exact slLt_trans h1 h2
 ntrans:=fun x y z h1 h2=>by
  rw[ltOf_cmpF] at *
  intro h
  rcases slLt_tri x y with h3 | h3 | h3
  ·exact h1 h3
  ·subst h3
   exact h2 h
  ·exact h2 (slLt_trans h3 h)
set_option maxHeartbeats 800000 in
theorem front_cmp (x y:Wd) (w:World):Calls Tryz.prog 54 #[wv x,wv y] w fun e w'=>e=.returned (.int .i64 (cmpF x y))∧Below w.heap.size w w'∧w.drawn≤w'.drawn:=by
 by_cases h:x.length=y.length
 ·have hq:((x.length:Int)==(y.length:Int))=true:=by simp[h]
  have HO:=Lib.hid (show cmpF x y=Lib.compareBytes x y by unfold cmpF;rw[if_pos h])
  clear h
  go_enter Tryz.func54,Tryz.ntmps54
  go_wp2_with fail
  refine (Tryz.strings_Compare ⟨x.toArray⟩ ⟨y.toArray⟩ _).mono ?_
  rintro e w1 ⟨rfl,rfl⟩
  go_wp2_with fail
  go_ret
  exact⟨rt1 (vint HO.out.symm),by go_grown,Nat.le_refl _⟩
 ·have hq:((x.length:Int)==(y.length:Int))=false:=by rw[beq_eq_false_iff_ne];omega
  have HO:=Lib.hid (show cmpF x y=Lib.compareInt x.length y.length by unfold cmpF;rw[if_neg h])
  clear h
  go_enter Tryz.func54,Tryz.ntmps54
  go_wp2_with fail
  refine (Tryz.cmp_Compare_int x.length y.length _).mono ?_
  rintro e w1 ⟨rfl,rfl⟩
  go_wp2_with fail
  go_ret
  exact⟨rt1 (vint HO.out.symm),by go_grown,Nat.le_refl _⟩
def SortedW (base:Nat) (v:Value) (ks:List Wd) (w w':World):Prop:=∃ ts:List Wd,ts.Perm ks∧ts.Pairwise (fun a b=>¬ slLt b a)∧w'.ownsRow base 9 1 v ks.length (wcells ts)∧w.grownBy w' v.ownBlock
set_option maxHeartbeats 800000 in
theorem sortWords_any (base:Nat) (A:Option Addr) (c:Nat) (ks:List Wd) (w:World) (h:w.ownsRow base 9 1 (.slice A ks.length c) ks.length (wcells ks)) (hn:ks.length<4611686018427387904) (h0:0<ks.length) :
  Calls Tryz.prog 53 #[.slice A ks.length c,.func (.func 54) #[] #[]] w fun e w'=>e=.returned (.tuple #[])∧SortedW base (.slice A ks.length c) ks w w':=by
 have eg:∀ args w,(callFunc 54 args).run Tryz.prog w=.ok (.enter 54 args) w:=enters_of Tryz.func54 (by kernel_rfl) rfl
 have HH:=Lib.hid h
 rcases HH.out.2 with ⟨hnil,h1⟩ | ⟨g,cap,cur,hv,hbase,hb,h1,h2,h3,h4⟩
 ·omega
 ·injection hv with e1 e2 e3
  subst e1 e3
  have hH:Holds encStr w g 0 ks.toArray:=holds_of_block hb (by rw[Nat.mul_one] at h4;exact h4)
  have hgl:g<w.heap.size:=(Array.getElem?_eq_some_iff.1 hb).1
  have hS:=Any.slices_SortFunc Tryz.sortLayS encStr (fun _=>rfl) cmpF swoF 54 #[] g 0 c ks.toArray w eg (fun m os dk hdk x y=>(front_cmp x y _).mono fun e w' ⟨he,hb,hd⟩=>⟨he,grown_of hb hd⟩) hH hgl (by simpa using hn)
  simp only[List.size_toArray] at hS
  refine Calls.mono hS fun e w' ⟨he,d',n,os,hp,hs,hw⟩=>⟨he,d'.toList,?_,?_,?_,?_⟩
  ·obtain⟨p1,_,p3⟩:=hp
   have e1:d'.extract 0 ks.length=d':=by
    apply Array.extract_eq_self_of_le;rw[p1];simp
   have e2:ks.toArray.extract 0 ks.length=ks.toArray:=by
    apply Array.extract_eq_self_of_le;simp
   rw[e1,e2] at p3
   simpa using p3
  ·rw[List.pairwise_iff_getElem]
   intro i j hi hj hij
   have hsz:d'.size=ks.length:=by rw[hp.1];simp
   have:=hs i j (Nat.zero_le _) hij (by rw[←hsz];simpa using hj)
   rw[ltOf_cmpF] at this
   have hj':j<d'.size:=by simpa using hj
   have hi':i<d'.size:=by simpa using hi
   rw[getElem!_pos d' j hj',getElem!_pos d' i hi'] at this
   simpa using this
  ·subst hw
   have hsz:d'.toList.length=ks.length:=by rw[Array.length_toList,hp.1];simp
   have:=ownsRow_sorted (w:=w) (base:=base) (g:=g) (cap:=c) (n:=n) (os:=os) (cur:=cur) (ss:=ks) (ts:=d'.toList) hsz hbase hb h1 h2 h3
   rw[Array.toArray_toList] at this
   exact this
  ·subst hw
   have:=grownBy_sorted (w:=w) (g:=g) (n:=n) (os:=os) d'
   exact this
end Go.Proofs.YtfpihflepeiagaaGreatDoor
namespace Go.Proofs.YtfpihflepeiagaaGreatDoor
open Go.RowKit

theorem rowsIn_wide {n l:Nat} {P:Program} {row:String} {args:Array Value} {w:World} {R:Value→World→Prop} (h:Rows P row args w R):RowsIn (Fence.wide.inRound l) n P row args w R :=
 fun c cs _=>let ⟨v,w',r,s⟩:=h c cs;⟨v,w',r,stepsIn_wide.2 s⟩
theorem wpIn_of_wp {n l:Nat} {P:Program} {o:Oper} {a:Act} {w:World} {K:Act→World→Prop} {Q:Exit→Act→World→Prop} (hnd:∀ c,o.op≠.defer c) (h:o.wp P a w K Q):o.wpIn (Fence.wide.inRound l) n P a w K Q:=by
 refine⟨fun _ _=>trivial,?_⟩
 rw[Fence.inRound_round,Oper.semAt_some l a.eval o hnd]
 unfold Oper.wp at h
 generalize (execOp a.eval o).run P w=r at *
 cases r with
 |ok x w' =>
  cases x with
  |value v=>exact h
  |skip=>exact h
  |defer d=>exact h
  |enter f args=>exact⟨fun h=>absurd h Bool.false_ne_true,CallsIn.inRound l (callsIn_wide.2 h)⟩
  |row r args=>exact⟨fun h=>absurd h Bool.false_ne_true,rowsIn_wide h⟩
  |round l f tmps assign body=>exact False.elim h
  |_=>exact False.elim h
 |halt x w'=>cases x <;> first | exact h | exact False.elim h
theorem cells_stayB {W W':World} {row:Option Nat} (hg:W.grownBy W' row) (hr:∀ r,row=some r→∃ o:Obj,W.heap[r]? = some o∧o.isCells=false) {k:Nat} {cs:Array Value} {t:TypeId} {fr:Nat×Nat} (h:W.heap[k]? = some (.cells cs t fr)):W'.heap[k]? = some (.cells cs t fr) :=
 (grownBy_keeps_cells hg hr h rfl).trans h
theorem own_stay {W W':World} {row:Option Nat} (hg:W.grownBy W' row) (hr:∀ r,row=some r→∃ o:Obj,W.heap[r]? = some o∧o.isCells=false) {base:Nat} {e:TypeId} {size:Nat} {v:Value} {n:Nat} {xs:List Value} (h:W.ownsRow base e size v n xs):W'.ownsRow base e size v n xs:=by
 refine⟨h.1,?_⟩
 rcases h.2 with h' | ⟨g,cap,cur,rfl,hb,hh,r⟩
 ·exact .inl h'
 ·exact .inr ⟨g,cap,cur,rfl,hb,cells_stayB hg hr hh,r⟩
theorem app_stay {w w':World} {base:Nat} {e:TypeId} {size n:Nat} {v:Value} {xs:List Value} (hown:w.ownsRow base e size v n xs) (hg:w.grownBy w' v.ownBlock) {k:Nat} {o:Obj} (h:w.heap[k]? = some o) (hne:∀ cur,o≠.cells cur e (0,0)):w'.heap[k]? = some o:=by
 refine (hg.block k (Array.getElem?_eq_some_iff.1 h).1 fun he=>?_).trans h
 rcases hown.2 with ⟨rfl,_⟩ | ⟨g',cap,cur,rfl,_,hh,_⟩
 ·simp[Value.ownBlock] at he
 ·have:k=g':=by simpa[Value.ownBlock] using he
  subst this
  rw[h] at hh
  injection hh with hh
  exact hne cur hh
theorem type_ne2 {w:World} {g x:Nat} {cs ds:Array Value} {t u:TypeId} {fr gr:Nat×Nat} (h1:w.heap[g]? = some (.cells cs t fr)) (h2:w.heap[x]? = some (.cells ds u gr)) (ht:t≠u):g≠x:=by
 rintro rfl
 have h3:=h1.symm.trans h2
 injection h3 with h3
 injection h3 with _ h3
 exact ht h3
theorem map_ne {α:Type} {κ:α→Value} {w:World} {g x:Nat} {l:List (α×Value)} {cs:Array Value} {t:TypeId} {fr:Nat×Nat} (h1:MapR κ w g l) (h2:w.heap[x]? = some (.cells cs t fr)):g≠x:=by
 rintro rfl
 obtain⟨es,c,hh,_⟩:=h1
 rw[hh] at h2
 cases h2
theorem MapR.obj {α:Type} {κ:α→Value} {w:World} {g:Nat} {l:List (α×Value)} (h:MapR κ w g l):∃ o:Obj,w.heap[g]? = some o∧o.isCells=false:=by
 obtain⟨es,c,hh,_⟩:=h
 exact⟨_,hh,rfl⟩
theorem wp_appF {P:Program} {w:World} {o:Oper} {a:Act} {K:Act→World→Prop} {Q:Exit→Act→World→Prop} {s x:Operand} {t e:TypeId} {size bytes:Nat} {z:Value} (T:AppTy P t e size bytes z)
  (ho:o.op=.call { callee:=.builtin .append,args:=#[s,x],argTypes:=#[t,t] })
  {v:Value} {A:Option Addr} {m c:Nat} (hs:a.eval s=v) (hx:a.eval x=.slice A m c)
  {base:Nat} {n:Nat} {xs:List Value} (hown:w.ownsRow base e size v n xs)
  {B:Nat} {news:List Value} (hr:Rd w B A news) (hl:news.length=m*size) (h1:∀ u∈news,u.oneCell'=true)
  (h63:n+m≤maxLen) (hbytes:(n+m)*bytes≤140737488355328) (hbase:base≤w.heap.size)
  (h:∀ A' c' w',w'.ownsRow base e size (.slice A' (n+m) c') (n+m) (xs++news)→w.grownBy w' v.ownBlock→((Value.slice A' (n+m) c').ownBlock=v.ownBlock∨(Value.slice A' (n+m) c').ownBlock=some w.heap.size)→K (a.put o.dst (.slice A' (n+m) c')) w'):o.wp P a w K Q :=
 wp_app T ho hs hx hown hr hl h1 h63 hbytes hbase fun v' w' h2 h3 h4 _=>by
  obtain⟨A',c',rfl,_,_⟩:=own_form h2
  exact h A' c' w' h2 h3 h4
theorem wp_appB {P:Program} {w:World} {o:Oper} {a:Act} {K:Act→World→Prop} {Q:Exit→Act→World→Prop} {s x:Operand} {t e:TypeId} {size bytes:Nat} {z:Value} (T:AppTy P t e size bytes z)
  (ho:o.op=.call { callee:=.builtin .append,args:=#[s,x],argTypes:=#[t,t] })
  {v:Value} {A:Option Addr} {m c:Nat} (hs:a.eval s=v) (hx:a.eval x=.slice A m c)
  {base:Nat} {n:Nat} {xs:List Value} (hown:w.ownsRow base e size v n xs)
  {B:Nat} {news:List Value} (hr:Rd w B A news) (hl:news.length=m*size) (h1:∀ u∈news,u.oneCell'=true)
  {k:Nat} {u:Value} {tb:TypeId} (hbox:w.heap[k]? = some (.cells #[u] tb (0,0))) (htb:tb≠e)
  (h63:n+m≤maxLen) (hbytes:(n+m)*bytes≤140737488355328) (hbase:base≤w.heap.size)
  (h:∀ A' c' w',w'.ownsRow base e size (.slice A' (n+m) c') (n+m) (xs++news)→w.grownBy w' v.ownBlock→((Value.slice A' (n+m) c').ownBlock=v.ownBlock∨(Value.slice A' (n+m) c').ownBlock=some w.heap.size) →
   w'.heap[k]? = some (.cells #[u] tb (0,0))→w'.cell? ⟨k,0,none⟩=some u→w'.frozen? ⟨k,0,none⟩=false→K (a.put o.dst (.slice A' (n+m) c')) w'):o.wp P a w K Q :=
 wp_appF T ho hs hx hown hr hl h1 h63 hbytes hbase fun A' c' w' h2 h3 h4=>by
  have hb:=app_stay hown h3 hbox (fun cur e=>by injection e with _ e;exact htb e)
  exact h A' c' w' h2 h3 h4 hb (by rw[cell_of_row _ _ _ _ _ _ hb];rfl) (by simp[World.frozen?,hb])
theorem wpIn_rangeFunc_box {F:Fence} {n:Nat} {P:Program} {w:World} {a:Act} {α:Type} {g:Operand} {ps:Array Tmp} {assign body:Code} {Q:Exit→Act→World→Prop}
  (hro:F.round=none) (h1:1≤n) {gf:Nat} {lb:Array Value} (hg:a.eval g=.func (.func gf) #[] lb) (hFg:F.fn gf) (eg:∀ args w,(callFunc gf args).run P w=.ok (.enter gf args) w)
  {encs:α→Array Value} {Kp:World→World→Prop} {S Sp:List α→Prop} {N:Nat} {w0:World} (hseq:SeqStopsK F (n - 1) P gf lb encs Kp S Sp N w0)
  (hKt:∀ {A B C:World},Kp A B→Kp B C→Kp A C) (hKb:∀ (W:World) (l:Nat) (o o':Obj),w.heap.size≤l→W.heap[l]? = some o→o.isCells=false→o.isWalk=false→Kp W (W.putObj l o')) (hb0:Below w0.heap.size w0 w) (hps:∀ x,(encs x).size=ps.size)
  (I:List α→World→Prop) (Ix:Code→List α→World→Prop) (hI:OwnFrom w.heap.size I) (hIx:∀ c,OwnFrom w.heap.size (Ix c)) (h0:I [] w) (row:α→Array Value) (t:TypeId)
  (hrow:∀ (pre:List α) (x:α) (W:World),I pre W→Kp W (W.alloc (.cells (row x) t))∧I pre (W.alloc (.cells (row x) t))) (a₁:α→Nat→Act)
  (hassign:∀ (l:Nat) (x:α) (W Wn:World) (b:Nat) (K:Act→World→Prop),b=W.heap.size→Wn=W.alloc (.cells (row x) t)→K (a₁ x b) Wn →
   assign.wpIn (F.inRound l) (n - 1 - 1) P (Exit.then K (fun _ _ _=>False)) { tmps:=(ps.zip (encs x)).foldl (fun t (p,v)=>t.setIfInBounds p v) a.tmps,defers:=[] } W)
  (hbody:∀ (l:Nat) (pre:List α) (x:α) (b:Nat) (W:World),W.heap[b]? = some (.cells (row x) t (0,0))→I pre W→pre.length<N→body.wpIn (F.inRound l) (n - 1 - 1) P (ownPostG w.heap.size Kp I Ix (pre++[x]) W) (a₁ x b) W)
  (hdone:∀ (D:Nat) (xs:List α) (W:World),w.heap.size≤D→S xs→I xs W→W.heap[D]? = some (.deferred (some []))→Q .normal { a with defers:={ target:=.collected D,args:=#[] } :: a.defers } W)
  (hstop:∀ (D:Nat) (c:Code) (pre:List α) (W:World),w.heap.size≤D→Sp pre→Ix c pre W→W.heap[D]? = some (.deferred (some []))→c.wpIn F n P Q { a with defers:={ target:=.collected D,args:=#[] } :: a.defers } W) :
  (Code.rangeFunc g ps assign body).wpIn F n P Q a w :=
 wpIn_rangeFunc_ownH hro h1 hg hFg eg hseq (fun h k=>hKt h k) hKb hb0 hps I Ix hI hIx h0 (fun x a' W=>∃ b:Nat,W.heap[b]? = some (.cells (row x) t (0,0))∧a'=a₁ x b)
  (fun _ _ _ _ _ _ hs hg hr=>let ⟨b,hb,e⟩:=hs;⟨b,cells_stayB hg (fun r e=>(hr r e).2) hb,e⟩)
  (fun l pre x W K hi hK=>hassign l x W _ _ K rfl rfl (hK _ _ ⟨by simp,fun k _ _ hk _=>(Below.heap_alloc W _ k (Array.getElem?_eq_some_iff.1 hk).1).trans hk⟩ (hrow pre x W hi).1 (hrow pre x W hi).2 ⟨_,Go.heap_alloc_new W _,rfl⟩))
  (fun l pre x _ W _ _ hi hs hl=>by
   obtain⟨b,hb,rfl⟩:=hs
   exact hbody l pre x b W hb hi hl) hdone hstop
theorem cell_none {W:World} {D:Nat} {o:Obj} (hD:W.heap[D]? = some o) (ho:o.isCells=false) {p:Addr} (hp:p.block=D):W.cell? p=none:=by
 unfold World.cell?
 rw[hp,hD]
 cases o with
 |cells c t f=>cases ho
 |_=>rfl
theorem cell_put {W:World} {D:Nat} {o o':Obj} (hD:W.heap[D]? = some o) (ho:o.isCells=false) (ho':o'.isCells=false) (p:Addr):(W.putObj D o').cell? p=W.cell? p:=by
 by_cases hp:p.block=D
 ·rw[cell_none hD ho hp,cell_none (World.putObj_heap_same (w:=W) (o:=o') (Array.getElem?_eq_some_iff.1 hD).1) ho' hp]
 ·exact World.cell?_of_block (World.putObj_heap_other hp)
end Go.Proofs.YtfpihflepeiagaaGreatDoor
