import Derived.Test.YtghbgeaammnkcaaGreatDoorVcSt
namespace Go.Vc
set_option linter.unusedVariables false
set_option linter.unusedSimpArgs false
open Go
theorem Sta.perm {e h:Heap} {L L':Rws} {D:Heap→Prop} (hp:L.Perm L') (st:Sta e h L D):Sta e h L' D:=by
 have a:L.bs.Perm L'.bs:=hp.map _
 refine ⟨st.ext,fun b cs hm=>st.row b cs (hp.mem_iff.2 hm),fun b hm=>st.low b (a.mem_iff.2 hm),a.nodup_iff.1 st.nod,fun h' c=>st.dat h' (c.mono fun x c=>a.mem_iff.2 c)⟩
theorem Sta.sub {e h:Heap} {L L':Rws} {D:Heap→Prop} (hs:L'.Sublist L) (st:Sta e h L D):Sta e h L' D:=by
 have a:L'.bs.Sublist L.bs:=hs.map _
 exact ⟨st.ext,fun b cs hm=>st.row b cs (hs.subset hm),fun b hm=>st.low b (a.subset hm),a.nodup st.nod,fun h' c=>st.dat h' (c.mono fun x c=>a.subset c)⟩
theorem Zk4 {a:Heap} {L:Rws} {D:Heap→Prop} {b:Nat} {post:List Value}:∀ (news mid pre:List Value) (off i:Nat) (h:Heap) (K:Heap→Prop),off+i=pre.length→mid.length=news.length→(∀ v∈news,v.oneCell'=true) →
  Sta a h ((b,.cs (pre++mid++post))::L) D→(∀ h',Sta a h' ((b,.cs (pre++news++post))::L) D→K h')→vStoreN ⟨b,off,none⟩ news i h K
 | [],[],pre,off,i,h,K,_,_,_,st,hk=>hk h st
 | [],_::_,_,_,_,_,_,_,hl,_,_,_=>by simp at hl
 | _::_,[],_,_,_,_,_,_,hl,_,_,_=>by simp at hl
 | v::news,c::mid,pre,off,i,h,K,ho,hl,e,st,hk=>by
  unfold vStoreN
  have f:Sta a h ((b,.cs (pre++[c]++(mid++post)))::L) D:=by simpa using st
  refine ZyU f 0 ho.symm (by rw [Zar];rfl) rfl (e v (List.mem_cons_self ..)) fun h' st'=>?_
  refine Zk4 news mid (pre++[v]) off (i+1) h' K (by simp;omega) (by simpa using hl) (fun u hu=>e u (List.mem_cons_of_mem _ hu)) (by simpa using st') fun h'' st''=>hk h'' (by simpa using st'')
end Go.Vc
