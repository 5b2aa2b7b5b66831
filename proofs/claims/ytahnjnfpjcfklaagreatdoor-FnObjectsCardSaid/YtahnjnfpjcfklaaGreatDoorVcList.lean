import Derived.Test.YtahnjnfpjcfklaaGreatDoorVcSt
namespace Go.Vc
set_option linter.unusedVariables false
set_option linter.unusedSimpArgs false
open Go
theorem Sta.perm {f h:Heap} {L L':Rws} {D:Heap->Prop} (hp:L.Perm L') (st:Sta f h L D):Sta f h L' D:=by
 have a:L.bs.Perm L'.bs:=hp.map _;refine ⟨st.ext,fun b cs g=>st.row b cs (hp.mem_iff.2 g),fun b g=>st.low b (a.mem_iff.2 g),a.nodup_iff.1 st.nod,fun j e=>st.dat j (e.mono fun x e=>a.mem_iff.2 e)⟩
theorem Sta.sub {f h:Heap} {L L':Rws} {D:Heap->Prop} (hs:L'.Sublist L) (st:Sta f h L D):Sta f h L' D:=by
 have a:L'.bs.Sublist L.bs:=hs.map _;exact ⟨st.ext,fun b cs g=>st.row b cs (hs.subset g),fun b g=>st.low b (a.subset g),a.nodup st.nod,fun j e=>st.dat j (e.mono fun x e=>a.subset e)⟩
theorem ZgS {a:Heap} {L:Rws} {D:Heap->Prop} {b:Nat} {j:List Value}:∀ (news g pre:List Value) (off i:Nat) (h:Heap) (K:Heap->Prop),off+i=pre.length->g.length=news.length->(∀ v∈news,v.oneCell'=true) ->
  Sta a h ((b,.cs (pre++g++j))::L) D->(∀ k,Sta a k ((b,.cs (pre++news++j))::L) D->K k)->vStoreN ⟨b,off,none⟩ news i h K
 | [],[],pre,off,i,h,K,_,_,_,st,hk=>hk h st
 | [],_::_,_,_,_,_,_,_,hl,_,_,_=>by simp at hl
 | _::_,[],_,_,_,_,_,_,hl,_,_,_=>by simp at hl
 | v::news,c::g,pre,off,i,h,K,ho,hl,h1,st,hk=>by
  unfold vStoreN;have e:Sta a h ((b,.cs (pre++[c]++(g++j)))::L) D:=by simpa using st
  refine Zv2 e 0 ho.symm (by rw [Z5];rfl) rfl (h1 v (List.mem_cons_self ..)) fun k r=>?_;refine ZgS news g (pre++[v]) off (i+1) k K (by simp;omega) (by simpa using hl) (fun u w=>h1 u (List.mem_cons_of_mem _ w)) (by simpa using r) fun o l=>hk o (by simpa using l)
end Go.Vc
